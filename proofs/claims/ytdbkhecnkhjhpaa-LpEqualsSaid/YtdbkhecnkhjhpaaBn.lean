/- Texts that were built one by one: Lz1, Le1, Le2, Le3, Le4, Le5, Le6, Le7. -/
import Derived.Test.YtdbkhecnkhjhpaaBk
import Derived.Test.YtdbkhecnkhjhpaaBl
/- Values of two programs, compared. -/
namespace Go.Proofs.Ytdbkhecnkhjhpaa
open Go Go.Ai
set_option linter.unusedSimpArgs false
set_option linter.unusedVariables false
attribute [local instance] Classical.propDecidable
variable {E : Env} (hE : LpE E) {h : List O}

theorem opt_le {A : List (List Int)} {B C X Y R Z : List Int} {xd yd zd : Int} (ho : Opt A B C X xd Y yd R) (hz : IsSol A B C Z zd) (hB : B.length = A.length) : dotZ C X C.length * zd ≤ dotZ C Z C.length * xd := by
  obtain ⟨a1, a2, _, _, a3, a4⟩ := ho
  have w1 := weak hz hB a3
  have hx := a1.1
  have h3 : zd * dotZ B Y B.length * xd ≤ yd * dotZ C Z C.length * xd := Int.mul_le_mul_of_nonneg_right w1 (by omega)
  have h4 : yd * (dotZ C X C.length * zd) ≤ yd * (dotZ C Z C.length * xd) := by
    rw [Int.mul_assoc zd, ← a4] at h3
    rw [show yd * (dotZ C X C.length * zd) = zd * (dotZ C X C.length * yd) by grind, ← Int.mul_assoc yd]
    exact h3
  exact Int.le_of_mul_le_mul_left h4 (by omega)
theorem val_le {C X C' Z : List Int} {xd zd : Int} (hx : 1 ≤ xd) (hz : 1 ≤ zd) (h : dotZ C X C.length * zd ≤ dotZ C' Z C'.length * xd) : valN C X xd * valD C' Z zd ≤ valN C' Z zd * valD C X xd := by
  obtain ⟨g, hg, e1, e2, hd⟩ := val_scale (C := C) (X := X) hx
  obtain ⟨g', hg', f1, f2, hd'⟩ := val_scale (C := C') (X := Z) hz
  rw [← e1, ← f1] at h
  generalize valN C X xd = a at *
  generalize valD C X xd = b at *
  generalize valN C' Z zd = c at *
  generalize valD C' Z zd = d at *
  subst e2 f2
  have h2 : g * g' * (a * d) ≤ g * g' * (c * b) := by
    have e1 : a * g * (d * g') = g * g' * (a * d) := by grind
    have e2 : c * g' * (b * g) = g * g' * (c * b) := by grind
    rw [e1, e2] at h; exact h
  exact Int.le_of_mul_le_mul_left h2 (Int.mul_pos (by omega) (by omega))
theorem floor_eq {n d : Int} (hd : 1 ≤ d) : n.tdiv d - (if n.tmod d < 0 then 1 else 0) = n / d := by
  have e := Int.mul_tdiv_add_tmod n d
  have hr : -d < n.tmod d ∧ n.tmod d < d := by
    have h1 := Int.natAbs_tmod n d
    have h2 : n.natAbs % d.natAbs < d.natAbs := Nat.mod_lt _ (by omega)
    omega
  generalize n.tdiv d = q at *
  generalize n.tmod d = r at *
  symm
  rw [Int.ediv_eq_iff_of_pos (by omega)]
  split
  · constructor
    · have : (q - 1) * d = d * q - d := by grind
      omega
    · have : (q - 1) * d = d * q - d := by grind
      omega
  · have : (q - 0) * d = d * q := by grind
    constructor <;> omega
theorem atMost_ok {a b c d : Int} (hb : 1 ≤ b) (hd : 1 ≤ d) (h : a * d ≤ c * b) : a / b ≤ c / d ∧ (a / b = c / d → (a - a / b * b) * d ≤ (c - c / d * d) * b) := by
  constructor
  · have h1 : a / b * b ≤ a := Int.ediv_mul_le a (by omega)
    refine (Int.le_ediv_iff_mul_le (by omega)).2 ?_
    have h2 : a / b * b * d ≤ c * b := Int.le_trans (Int.mul_le_mul_of_nonneg_right h1 (by omega)) h
    have h3 : (a / b * d) * b ≤ c * b := by rw [Int.mul_right_comm] at h2; exact h2
    exact Int.le_of_mul_le_mul_right h3 (by omega)
  · intro e
    rw [← e]
    generalize a / b = x
    have e1 : (a - x * b) * d = a * d - x * b * d := by grind
    have e2 : (c - x * d) * b = c * b - x * b * d := by grind
    omega
include hE
theorem floor41 {n d : Int} (hd : 1 ≤ d) (hn : -4611686018427387904 ≤ n ∧ n ≤ 4611686018427387904) : DR E 41 [.int .i64 n, .int .i64 d] ⟨h, h.length⟩ (.ret (.int .i64 (n / d))) ⟨h, h.length⟩ := by
  refine hE.fn (body := rb41) rfl (by decide) ?_
  unfold rb41
  have h0 : d ≠ 0 := by omega
  have hb : (n.tdiv d).natAbs ≤ n.natAbs := by rw [Int.natAbs_tdiv]; exact Nat.div_le_self _ _
  have hw : IntKind.i64.wrap (n.tdiv d) = n.tdiv d := by rw [w64_id] <;> omega
  have hf := floor_eq (n := n) hd
  have bq := binV_quo (k := .i64) (a := n) h0
  have br := binV_rem (k := .i64) (a := n) h0
  rw [hw] at bq
  rw [← hf]
  generalize n.tdiv d = q' at bq hb
  generalize n.tmod d = r' at br
  by_cases c : r' < 0
  · have e1 : IntKind.i64.wrap (q' - 1) = q' - 1 := by rw [w64_id] <;> omega
    simp [bq, br, eq_true c, e1]
  · simp [bq, br, eq_false c]
theorem atMost22 {va ra vb rb : Value} {a b c d : Int} (sA : ∃ A B C, LpAt h va A B C) (sB : ∃ A B C, LpAt h vb A B C) (hra : ∃ k X xd Y yd R, ResAt h ra k X xd Y yd R) (hrb : ∃ k X xd Y yd R, ResAt h rb k X xd Y yd R)
    (l1 : ∀ h', Ext h h' → DR E 10 [va, ra] ⟨h', h'.length⟩ (.ret (.tuple #[.int .i64 a, .int .i64 b, .int .i64 0])) ⟨h', h'.length⟩)
    (l2 : ∀ h', Ext h h' → DR E 10 [vb, rb] ⟨h', h'.length⟩ (.ret (.tuple #[.int .i64 c, .int .i64 d, .int .i64 0])) ⟨h', h'.length⟩)
    (hb : 1 ≤ b ∧ b ≤ 1073741824) (hd : 1 ≤ d ∧ d ≤ 1073741824) (ha : -1000000000000000000 ≤ a ∧ a ≤ 1000000000000000000) (hc : -1000000000000000000 ≤ c ∧ c ≤ 1000000000000000000) (hle : a * d ≤ c * b) :
    DR E 22 [va, ra, vb, rb] ⟨h, h.length⟩ (.ret (.bool true)) ⟨h, h.length⟩ := by
  refine hE.fn (body := rb22) rfl (by decide) ?_
  unfold rb22
  rw [DW_seq, DW_ops]
  refine DL_boxed fun h1 p1 hx1 hlen1 hp1 hb1 => DL_boxed fun h2 p2 hx2 hlen2 hp2 hb2 => DL_boxed fun h3 p3 hx3 hlen3 hp3 hb3 => DL_boxed fun h4 p4 hx4 hlen4 hp4 hb4 => ?_
  simp at hb1 hb2 hb3 hb4
  obtain ⟨A, B, C, hA⟩ := sA
  obtain ⟨A', B', C', hB⟩ := sB
  obtain ⟨k, X, xd, Y, yd, R, hR⟩ := hra
  obtain ⟨k', X', xd', Y', yd', R', hR'⟩ := hrb
  have x04 := hx1.trans (hx2.trans (hx3.trans hx4))
  obtain ⟨_, _, _, e1, _, _, _, n1, _⟩ := boxLp (h := h) ((hb1.ext hx2).ext (hx3.trans hx4)) rfl (hA.ext x04)
  obtain ⟨_, _, _, e2, _, _, _, _, _, _, n2, _⟩ := boxRes (hb2.ext (hx3.trans hx4)) rfl (hR.ext x04)
  obtain ⟨_, _, _, e3, _, _, _, n3, _⟩ := boxLp (h := h) (hb3.ext hx4) rfl (hB.ext x04)
  obtain ⟨_, _, _, e4, _, _, _, _, _, _, n4, _⟩ := boxRes hb4 rfl (hR'.ext x04)
  have m1 := l1 h4 x04
  have m2 := l2 h4 x04
  subst e1 e2 e3 e4
  obtain ⟨q1, q2⟩ := atMost_ok hb.1 hd.1 hle
  have f1 := floor41 hE (h := h4) (n := a) hb.1 (by omega)
  have f2 := floor41 hE (h := h4) (n := c) hd.1 (by omega)
  have hb' : ¬ b < 1 := by omega
  have hd' : ¬ d < 1 := by omega
  have hx := Int.ediv_mul_le a (b := b) (by omega)
  have hx' := Int.lt_ediv_add_one_mul_self a (b := b) (by omega)
  have hy := Int.ediv_mul_le c (b := d) (by omega)
  have hy' := Int.lt_ediv_add_one_mul_self c (b := d) (by omega)
  generalize a / b = x at *
  generalize c / d = y at *
  rw [Int.add_mul, Int.one_mul] at hx' hy'
  by_cases e : x = y
  · subst e
    have q3 := q2 rfl
    obtain ⟨u, hu⟩ : ∃ u, x * b = u := ⟨_, rfl⟩
    obtain ⟨v, hw⟩ : ∃ v, x * d = v := ⟨_, rfl⟩
    rw [hu] at hx hx' q3
    rw [hw] at hy hy' q3
    have z1 : IntKind.i64.wrap (x * b) = u := by rw [hu, w64_id] <;> omega
    have z2 : IntKind.i64.wrap (x * d) = v := by rw [hw, w64_id] <;> omega
    have z3 : IntKind.i64.wrap (a - u) = a - u := by rw [w64_id] <;> omega
    have z4 : IntKind.i64.wrap (c - v) = c - v := by rw [w64_id] <;> omega
    have b1 := mul_bound (a := 1073741824) (b := 1073741824) (x := a - u) (y := d) (by omega) (by omega)
    have b2 := mul_bound (a := 1073741824) (b := 1073741824) (x := c - v) (y := b) (by omega) (by omega)
    have z5 : IntKind.i64.wrap ((a - u) * d) = (a - u) * d := by rw [w64_id] <;> omega
    have z6 : IntKind.i64.wrap ((c - v) * b) = (c - v) * b := by rw [w64_id] <;> omega
    simp [n1, n2, n3, n4, DC_of m1, DC_of m2, eq_false hb', eq_false hd', DC_of f1, DC_of f2, z1, z2, z3, z4, z5, z6, eq_true q3]
  · have hlt : x < y := by omega
    simp [n1, n2, n3, n4, DC_of m1, DC_of m2, eq_false hb', eq_false hd', DC_of f1, DC_of f2, eq_false e, eq_true hlt]
end Go.Proofs.Ytdbkhecnkhjhpaa
/- Programs that have the same solutions in other words. -/
namespace Go.Proofs.Ytdbkhecnkhjhpaa
open Go Go.Ai
set_option linter.unusedSimpArgs false
set_option linter.unusedVariables false
attribute [local instance] Classical.propDecidable
variable {A A' : List (List Int)} {B B' C C' : List Int}

def Sim (A : List (List Int)) (B C : List Int) (A' : List (List Int)) (B' C' : List Int) : Prop :=
  (∀ X xd, IsSol A B C X xd → ∃ X', IsSol A' B' C' X' xd ∧ dotZ C' X' C'.length = dotZ C X C.length) ∧ (∀ X xd Y yd R, Unb A B C X xd Y yd R → ∃ X' R', Unb A' B' C' X' xd Y yd R')
theorem sim_eq (hv : Valid A B C) (hv' : Valid A' B' C') (s : Sim A B C A' B' C') (s' : Sim A' B' C' A B C) {kind kind' xd xd' yd yd' : Int} {X Y R X' Y' R' : List Int} (hR : Right A B C kind X xd Y yd R) (hR' : Right A' B' C' kind' X' xd' Y' yd' R') :
    kind = kind' ∧ (kind = 1 → valN C X xd = valN C' X' xd' ∧ valD C X xd = valD C' X' xd') := by
  have hB := hv.2.1
  have hB' := hv'.2.1
  rcases hR.2 with ⟨rfl, h1⟩ | ⟨rfl, h1⟩ | ⟨rfl, h1⟩ <;> rcases hR'.2 with ⟨rfl, h2⟩ | ⟨rfl, h2⟩ | ⟨rfl, h2⟩
  · refine ⟨rfl, fun _ => ?_⟩
    obtain ⟨Z, z1, z2⟩ := s.1 _ _ h1.1
    obtain ⟨W, w1, w2⟩ := s'.1 _ _ h2.1
    have e1 := opt_le h1 w1 hB
    have e2 := opt_le h2 z1 hB'
    rw [w2] at e1
    rw [z2] at e2
    have e : dotZ C X C.length * xd' = dotZ C' X' C'.length * xd := by omega
    exact low_eq h1.1.1 h2.1.1 e
  · obtain ⟨Z, z1, _⟩ := s.1 _ _ h1.1
    exact (emp_no z1 h2 hB').elim
  · obtain ⟨Z, W, z1⟩ := s'.2 _ _ _ _ _ h2
    exact (unb_no h1 z1).elim
  · obtain ⟨Z, z1, _⟩ := s'.1 _ _ h2.1
    exact (emp_no z1 h1 hB).elim
  · exact ⟨rfl, fun h => by omega⟩
  · obtain ⟨Z, z1, _⟩ := s'.1 _ _ h2.1
    exact (emp_no z1 h1 hB).elim
  · obtain ⟨Z, W, z1⟩ := s.2 _ _ _ _ _ h1
    exact (unb_no h2 z1).elim
  · obtain ⟨Z, z1, _⟩ := s.1 _ _ h1.1
    exact (emp_no z1 h2 hB').elim
  · exact ⟨rfl, fun h => by omega⟩
/-- A change of the vectors that leads from one program to the other one. -/
structure Tr (A : List (List Int)) (B C : List Int) (A' : List (List Int)) (B' C' : List Int) (T : List Int → List Int) : Prop where
  n : C'.length = C.length
  len : ∀ X, X.length = C.length → (T X).length = C.length
  pos : ∀ X, X.length = C.length → Pos X → Pos (T X)
  lin : ∀ X d, X.length = C.length → (∀ a, a < A.length → dotZ (nthR A a) X C.length = d * nth B a) → ∀ a, a < A'.length → dotZ (nthR A' a) (T X) C.length = d * nth B' a
  cost : ∀ X, X.length = C.length → dotZ C' (T X) C.length = dotZ C X C.length
theorem Tr.sim {T : List Int → List Int} (t : Tr A B C A' B' C' T) : Sim A B C A' B' C' := by
  have sol : ∀ X xd, IsSol A B C X xd → IsSol A' B' C' (T X) xd ∧ dotZ C' (T X) C'.length = dotZ C X C.length := fun X xd h => by
    obtain ⟨h1, h2, h3, h4⟩ := h
    rw [t.n]
    exact ⟨⟨h1, by rw [t.len X h2, t.n], t.pos X h2 h3, fun a ha => by rw [t.n]; exact t.lin X xd h2 h4 a ha⟩, t.cost X h2⟩
  refine ⟨fun X xd h => ⟨T X, sol X xd h⟩, fun X xd Y yd R h => ?_⟩
  obtain ⟨h1, h2, h3, h4, h5, h6, h7⟩ := h
  refine ⟨T X, T R, (sol X xd h1).1, h2, h3, by rw [t.len R h4, t.n], t.pos R h4 h5, fun a ha => ?_, by rw [t.n, t.cost R h4]; exact h7⟩
  have := t.lin R 0 h4 (fun a ha => by rw [h6 a ha, Int.zero_mul]) a ha
  rw [t.n, this, Int.zero_mul]

/-! ### The changed program, by its entries -/
def rowsF (m : Nat) (F : Nat → List Int) : List (List Int) := (List.range m).map F
@[simp] theorem rowsF_length (m : Nat) (F : Nat → List Int) : (rowsF m F).length = m := by simp [rowsF]
theorem rowsF_row {m a : Nat} {F : Nat → List Int} (h : a < m) : nthR (rowsF m F) a = F a := by simp [rowsF, nthR, h]
theorem dotZ_congr {u u' v v' : List Int} {n : Nat} (h : ∀ t, t < n → nth u t = nth u' t) (h' : ∀ t, t < n → nth v t = nth v' t) : dotZ u v n = dotZ u' v' n := by
  unfold dotZ; exact sumN_congr fun t ht => by rw [h t ht, h' t ht]
/-- Changes of the rows. -/
theorem tr_rows {F : Nat → List Int} {bF cF : Nat → Int} (hB : B.length = A.length) (hc : ∀ t, t < C.length → cF t = nth C t)
    (h : ∀ X d, (∀ a, a < A.length → dotZ (nthR A a) X C.length = d * nth B a) ↔ ∀ a, a < A.length → dotZ (F a) X C.length = d * bF a) :
    Sim A B C (rowsF A.length F) (listF A.length bF) (listF C.length cF) ∧ Sim (rowsF A.length F) (listF A.length bF) (listF C.length cF) A B C := by
  have hcost : ∀ X, dotZ (listF C.length cF) X C.length = dotZ C X C.length := fun X => dotZ_congr (fun t ht => by rw [listF_nth ht, hc t ht]) fun t _ => rfl
  constructor
  · refine Tr.sim (T := id) ⟨by simp, fun X h => h, fun X _ h => h, fun X d hl hx a ha => ?_, fun X _ => hcost X⟩
    rw [rowsF_length] at ha
    rw [rowsF_row ha, listF_nth ha]
    exact (h X d).1 hx a ha
  · refine Tr.sim (T := id) ⟨by simp, fun X h => h, fun X _ h => h, fun X d hl hx a ha => ?_, fun X _ => by simp only [listF_length]; exact (hcost X).symm⟩
    simp only [listF_length, rowsF_length] at hx ⊢
    refine (h X d).2 (fun a ha => ?_) a ha
    have := hx a ha
    rwa [rowsF_row ha, listF_nth ha] at this
def swp (k l t : Nat) : Nat := if t = k then l else if t = l then k else t
theorem swp_swp (k l t : Nat) : swp k l (swp k l t) = t := by
  unfold swp
  by_cases h1 : t = k
  · rw [if_pos h1]; by_cases h2 : l = k
    · rw [if_pos h2]; omega
    · rw [if_neg h2, if_pos rfl, h1]
  · rw [if_neg h1]
    by_cases h2 : t = l
    · rw [if_pos h2, if_pos rfl, h2]
    · rw [if_neg h2, if_neg h1, if_neg h2]
theorem swp_lt {k l t n : Nat} (hk : k < n) (hl : l < n) (ht : t < n) : swp k l t < n := by
  unfold swp; split
  · exact hl
  · split
    · exact hk
    · exact ht
theorem sumN_swp (f : Nat → Int) {k l n : Nat} (hk : k < n) (hl : l < n) : sumN (fun t => f (swp k l t)) n = sumN f n := by
  by_cases hkl : k = l
  · subst hkl
    refine sumN_congr fun t _ => ?_
    unfold swp; split
    · rename_i h; rw [h]
    · rfl
  · have e1 : sumN (fun t => if t = k then f l - f k else 0) n = f l - f k := by
      rw [sumN_single (i := k) hk fun t _ ht => if_neg ht, if_pos rfl]
    have e2 : sumN (fun t => if t = l then f k - f l else 0) n = f k - f l := by
      rw [sumN_single (i := l) hl fun t _ ht => if_neg ht, if_pos rfl]
    have e3 : sumN (fun t => f (swp k l t)) n = sumN (fun t => f t + ((if t = k then f l - f k else 0) + (if t = l then f k - f l else 0))) n := by
      refine sumN_congr fun t _ => ?_
      unfold swp
      by_cases h1 : t = k
      · rw [if_pos h1, if_pos h1, if_neg (by omega), h1]; omega
      · rw [if_neg h1, if_neg h1]
        by_cases h2 : t = l
        · rw [if_pos h2, if_pos h2, h2]; omega
        · rw [if_neg h2, if_neg h2]; omega
    rw [e3, sumN_add, sumN_add, e1, e2]; omega
/-- Two columns are exchanged. -/
theorem tr_cols {F : Nat → List Int} {bF cF : Nat → Int} {k l : Nat} (hB : B.length = A.length) (hk : k < C.length) (hl : l < C.length) (hb : ∀ a, a < A.length → bF a = nth B a) (hc : ∀ t, t < C.length → cF t = nth C (swp k l t))
    (hF : ∀ a, a < A.length → ∀ t, t < C.length → nth (F a) t = nth (nthR A a) (swp k l t)) :
    Sim A B C (rowsF A.length F) (listF A.length bF) (listF C.length cF) ∧ Sim (rowsF A.length F) (listF A.length bF) (listF C.length cF) A B C := by
  have hpos : ∀ X : List Int, X.length = C.length → Pos X → Pos (listF C.length fun t => nth X (swp k l t)) := fun X hX hp t ht => by
    rw [listF_length] at ht
    rw [listF_nth ht]
    exact hp _ (by rw [hX]; exact swp_lt hk hl ht)
  have hdot : ∀ (u u' X : List Int), (∀ t, t < C.length → nth u' t = nth u (swp k l t)) → dotZ u' (listF C.length fun t => nth X (swp k l t)) C.length = dotZ u X C.length := fun u u' X hu => by
    unfold dotZ
    rw [← sumN_swp (fun t => nth u t * nth X t) hk hl]
    exact sumN_congr fun t ht => by rw [hu t ht, listF_nth ht]
  have hdot' : ∀ (u u' X : List Int), (∀ t, t < C.length → nth u' t = nth u (swp k l t)) → dotZ u (listF C.length fun t => nth X (swp k l t)) C.length = dotZ u' X C.length := fun u u' X hu => by
    refine hdot u' u X fun t ht => ?_
    rw [hu _ (swp_lt hk hl ht), swp_swp]
  constructor
  · refine Tr.sim (T := fun X => listF C.length fun t => nth X (swp k l t)) ⟨by simp, fun X _ => by simp, hpos, fun X d hX hx a ha => ?_, fun X hX => hdot C _ X fun t ht => by rw [listF_nth ht, hc t ht]⟩
    rw [rowsF_length] at ha
    rw [rowsF_row ha, listF_nth ha, hb a ha, hdot _ _ X (hF a ha)]
    exact hx a ha
  · refine Tr.sim (T := fun X => listF C.length fun t => nth X (swp k l t)) ⟨by simp, fun X _ => by simp, fun X hX hp => by simp only [listF_length] at hX; exact hpos X hX hp, fun X d hX hx a ha => ?_, fun X hX => ?_⟩
    · simp only [listF_length, rowsF_length] at hx hX ⊢
      have := hx a ha
      rw [rowsF_row ha, listF_nth ha, hb a ha] at this
      rw [hdot' _ _ X (hF a ha)]
      exact this
    · simp only [listF_length] at hX ⊢
      exact hdot' C _ X fun t ht => by rw [listF_nth ht, hc t ht]
theorem dotZ_mul {u v X : List Int} {m : Int} {n : Nat} (h : ∀ t, t < n → nth v t = m * nth u t) : dotZ v X n = m * dotZ u X n := by
  unfold dotZ
  rw [← sumN_mul]
  exact sumN_congr fun t ht => by rw [h t ht, Int.mul_assoc]
theorem dotZ_plus {u v w X : List Int} {n : Nat} (h : ∀ t, t < n → nth w t = nth u t + nth v t) : dotZ w X n = dotZ u X n + dotZ v X n := by
  unfold dotZ
  rw [← sumN_add]
  exact sumN_congr fun t ht => by rw [h t ht, Int.add_mul]
end Go.Proofs.Ytdbkhecnkhjhpaa
/- Multiples and sums of rows; copies of programs. -/
namespace Go.Proofs.Ytdbkhecnkhjhpaa
open Go Go.Ai
set_option linter.unusedSimpArgs false
set_option linter.unusedVariables false
attribute [local instance] Classical.propDecidable
variable {E : Env} (hE : LpE E) {h : List O}

/-- A list of numbers that grows in new memory. -/
structure GrowI (h H : List O) (v : Value) (n : Nat) (f : Nat → Int) (b : Nat) : Prop where
  ext : Ext h H
  own : OwnE H v n (cellsF n f) 3 b
  lb : h.length ≤ b
theorem cellsF_snoc (n : Nat) (f : Nat → Int) : cellsF n f ++ [.int .i64 (f n)] = cellsF (n + 1) f := by simp [cellsF, List.range_succ]
theorem GrowI.nil (h : List O) (f : Nat → Int) : GrowI h h emptyS 0 f h.length := ⟨Ext.refl _, .inl ⟨rfl, rfl, rfl⟩, Nat.le_refl _⟩
theorem GrowI.next {h H : List O} {v : Value} {n b fl : Nat} {f : Nat → Int} (G : GrowI h H v n f b) (hn : n < 1000) (hfl : fl ≤ h.length) :
    ∃ H', appendV 3 1 8 v (.slice (some ⟨H.length, 0, none⟩) 1 1) ⟨H ++ [.cells [.int .i64 (f n)] 3 (some 0)], fl⟩ = some (.slice (some ⟨H.length + 1, 0, none⟩) (n + 1) (n + 1), ⟨H', fl⟩) ∧ GrowI h H' (.slice (some ⟨H.length + 1, 0, none⟩) (n + 1) (n + 1)) (n + 1) f (H.length + 1) := by
  have hl := G.ext.len
  have hlb := G.lb
  have own2 : OwnE (H ++ [.cells [.int .i64 (f n)] 3 (some 0)]) v n (cellsF n f) 3 b := by
    rcases G.own with h | ⟨h1, h2, h3, h4⟩
    · exact .inl h
    · exact .inr ⟨h1, h2, get_ext (Ext.snoc _ _) h3, h4⟩
  obtain ⟨H', e, u1, u2, u3⟩ := append_oneE (bytes := 8) (fl := fl) (c := 1) (bx := H.length) (x := .int .i64 (f n)) own2 (by simp [rd]) rfl (by simp [roomMax]; omega) (by omega)
  have hl1 : (H ++ [O.cells [Value.int .i64 (f n)] 3 (some 0)]).length = H.length + 1 := by simp
  rw [hl1] at e u1 u2 u3
  rw [cellsF_snoc] at u1
  refine ⟨H', e, ext_of_agree (by omega) fun c hc => ?_, .inr ⟨by omega, rfl, u1, by simp⟩, by omega⟩
  rw [u3 c (by omega) (fun _ => by omega), List.getElem?_append_left (by omega)]
  obtain ⟨x, hx⟩ := G.ext
  rw [hx, List.getElem?_append_left hc]
theorem GrowI.blk {h H : List O} {v : Value} {n b : Nat} {f : Nat → Int} (G : GrowI h H v n f b) : ∀ x ∈ Ai.blk v, h.length ≤ x ∧ x < H.length := by
  intro x hx
  rcases G.own with ⟨_, _, rfl⟩ | ⟨_, rfl, h3, _⟩
  · cases hx
  · simp [Ai.blk] at hx
    subst hx
    exact ⟨G.lb, (List.getElem?_eq_some_iff.1 h3).1⟩
theorem GrowI.ints {h H : List O} {v : Value} {n b : Nat} {f : Nat → Int} (G : GrowI h H v n f b) (hn : n < 1000) (hf : ∀ t, t < n → I64 (f t)) : Ints H v (listF n f) := by
  have hI : ∀ i, I64 (nth (listF n f) i) := fun i => by
    by_cases hi : i < n
    · rw [listF_nth hi]; exact hf i hi
    · rw [nth_ge (by simp; omega)]; constructor <;> omega
  rcases G.own with ⟨h1, _, rfl⟩ | ⟨h1, rfl, h3, _⟩
  · subst h1
    exact ⟨_, 0, 0, 0, rfl, fun h => by simp at h, fun i hi => by simp at hi, hI, by simp⟩
  · refine ⟨_, b, 0, n, by simp, fun _ => rfl, fun i hi => ?_, hI, by simp; omega⟩
    simp at hi
    simp only [rd, h3, Nat.zero_add]
    rw [cellsF_get hi, listF_nth hi]
/-- What times and plus return. -/
def NewInts (h : List O) (n : Nat) (f : Nat → Int) (out : Out) (st' : St) : Prop := ∃ v', out = .ret v' ∧ Ext h st'.h ∧ Ints st'.h v' (listF n f) ∧ st'.fl = h.length ∧ (∀ b ∈ blk v', h.length ≤ b ∧ b < st'.h.length)
theorem read_rows {h : List O} {b o m : Nat} {vs : Nat → Value} (hr : ∀ i, i < m → rd h b (o + i) = some (vs i)) (hn : 0 < m) : readSlice h 1 m (some ⟨b, o, none⟩) = some ((List.range m).map vs) := by
  have h0 := hr 0 hn
  simp only [rd] at h0
  cases hb : h[b]? with
  | none => simp [hb] at h0
  | some x =>
    cases x with
    | cells cs el own =>
      have hc : ∀ i, i < m → cs[o + i]? = some (vs i) := fun i hi => by
        have := hr i hi; simpa [rd, hb] using this
      have hle : o + m ≤ cs.length := by
        have := (List.getElem?_eq_some_iff.1 (hc (m - 1) (by omega))).1; omega
      simp only [readSlice, rdN, hb]
      rw [if_neg (by omega), if_pos (by simpa using hle)]
      congr 1
      apply List.ext_getElem?
      intro i
      rw [List.getElem?_take]
      by_cases hi : i < m
      · rw [if_pos (by simpa using hi), List.getElem?_drop, hc i hi]
        simp [hi]
      · rw [if_neg (by simpa using hi), List.getElem?_eq_none (by simp; omega)]
    | _ => simp [hb] at h0
theorem slice_scalar {a : Nat} {n c : Nat} : (Out.ret (Value.slice (some ⟨a, 0, none⟩) n c)).scalar = false := by simp [Out.scalar, scalar, flat1, flat]
include hE
theorem times18 {v : Value} {xs : List Int} {m : Int} (hv : Ints h v xs) (hn : 0 < xs.length ∧ xs.length < 1000) (hb : ∀ t, t < xs.length → I64 (m * nth xs t)) :
    DC E 18 [v, .int .i64 m] ⟨h, h.length⟩ (NewInts h xs.length fun t => m * nth xs t) := by
  refine hE.fnC (body := rb18) rfl (by decide) ?_
  unfold rb18
  obtain ⟨a, b, o, c, rfl, h2, h3, h4, h5⟩ := id hv
  simp
  refine DW_loop (fun k fr st => ∃ i v' b' H, i + k = xs.length ∧ st = ⟨H, h.length⟩ ∧ get fr 0 = .slice a xs.length c ∧ get fr 1 = .int .i64 m ∧ get fr 5 = v' ∧ get fr 6 = .int .i64 (i : Nat) ∧ GrowI h H v' i (fun t => m * nth xs t) b') ?_ (k := xs.length) ⟨0, emptyS, h.length, h, by simp, by simp, by simp, by simp, by simp, by simp, GrowI.nil h _⟩
  rintro k fr st ⟨i, v', b', H, hi, rfl, g0, g1, g5, g6, G⟩
  by_cases hlt : i < xs.length
  · obtain rfl := h2 (by omega)
    have hr := G.ext.rd (h3 i hlt)
    obtain ⟨H', e, G'⟩ := G.next (fl := h.length) (by omega) (Nat.le_refl _)
    have hw : IntKind.i64.wrap (m * nth xs i) = m * nth xs i := by have := hb i hlt; rw [w64_id this.1 this.2]
    simp [g0, g1, g5, g6, hlt, hr, hw, fillL, setL, e]
    exact ⟨k - 1, by omega, i + 1, by omega, by rw [w64_id] <;> omega, _, G'⟩
  · have : i = xs.length := by omega
    subst this
    obtain ⟨h1, e1, h3', _⟩ : 0 < xs.length ∧ v' = .slice (some ⟨b', 0, none⟩) xs.length xs.length ∧ H[b']? = some (.cells (cellsF xs.length fun t => m * nth xs t) 3 (some 1)) ∧ _ := by
      rcases G.own with ⟨h, _⟩ | h
      · omega
      · exact h
    subst e1
    simp [g0, g1, g5, g6]
    unfold back
    rw [slice_scalar, Bool.false_and, if_neg (by decide)]
    exact ⟨_, rfl, G.ext, G.ints (by omega) hb, rfl, G.blk⟩
theorem plus19 {v w : Value} {xs ys : List Int} (hv : Ints h v xs) (hw : Ints h w ys) (hl : ys.length = xs.length) (hn : 0 < xs.length ∧ xs.length < 1000) (hb : ∀ t, t < xs.length → I64 (nth xs t + nth ys t)) :
    DC E 19 [v, w] ⟨h, h.length⟩ (NewInts h xs.length fun t => nth xs t + nth ys t) := by
  refine hE.fnC (body := rb19) rfl (by decide) ?_
  unfold rb19
  obtain ⟨a, b, o, c, rfl, h2, h3, h4, h5⟩ := id hv
  obtain ⟨a', b2, o', c', rfl, k2, k3, k4, k5⟩ := id hw
  simp
  refine DW_loop (fun k fr st => ∃ i v' b' H, i + k = xs.length ∧ st = ⟨H, h.length⟩ ∧ get fr 0 = .slice a xs.length c ∧ get fr 1 = .slice a' ys.length c' ∧ get fr 5 = v' ∧ get fr 6 = .int .i64 (i : Nat) ∧ GrowI h H v' i (fun t => nth xs t + nth ys t) b') ?_ (k := xs.length) ⟨0, emptyS, h.length, h, by simp, by simp, by simp, by simp, by simp, by simp, GrowI.nil h _⟩
  rintro k fr st ⟨i, v', b', H, hi, rfl, g0, g1, g5, g6, G⟩
  by_cases hlt : i < xs.length
  · obtain rfl := h2 (by omega)
    obtain rfl := k2 (by omega)
    have hr := G.ext.rd (h3 i hlt)
    have hr2 := G.ext.rd (k3 i (by omega))
    have hly : i < ys.length := by omega
    have lb1 := rd_lt (h3 i hlt)
    have lb2 := rd_lt (k3 i hly)
    obtain ⟨H', e, G'⟩ := G.next (fl := h.length) (by omega) (Nat.le_refl _)
    have hw : IntKind.i64.wrap (nth xs i + nth ys i) = nth xs i + nth ys i := by have := hb i hlt; rw [w64_id this.1 this.2]
    simp [g0, g1, g5, g6, hlt, hly, hr, hr2, hw, fillL, setL, e]
    exact ⟨⟨fun h => absurd h (by decide), fun h => absurd h (by decide)⟩, k - 1, by omega, i + 1, by omega, by rw [w64_id] <;> omega, _, G'⟩
  · have : i = xs.length := by omega
    subst this
    obtain ⟨h1, e1, h3', _⟩ : 0 < xs.length ∧ v' = .slice (some ⟨b', 0, none⟩) xs.length xs.length ∧ H[b']? = some (.cells (cellsF xs.length fun t => nth xs t + nth ys t) 3 (some 1)) ∧ _ := by
      rcases G.own with ⟨h, _⟩ | h
      · omega
      · exact h
    subst e1
    simp [g0, g1, g5, g6]
    unfold back
    rw [slice_scalar, Bool.false_and, if_neg (by decide)]
    exact ⟨_, rfl, G.ext, G.ints (by omega) hb, rfl, G.blk⟩
theorem copied17 {vA vB vC : Value} {A : List (List Int)} {B C : List Int} {bA oA cA : Nat} {vs : Nat → Value} (hv : Valid A B C) (hm : 0 < A.length) (eA : vA = .slice (some ⟨bA, oA, none⟩) A.length cA) (hA : ∀ i, i < A.length → rd h bA (oA + i) = some (vs i) ∧ Ints h (vs i) (nthR A i)) (hB : Ints h vB B) (hC : Ints h vC C) :
    DC E 17 [.agg #[vA, vB, vC]] ⟨h, h.length⟩ fun out st' => ∃ b1 b2 b3, out = .ret (.agg #[.slice (some ⟨b1, 0, none⟩) A.length A.length, .slice (some ⟨b2, 0, none⟩) A.length A.length, .slice (some ⟨b3, 0, none⟩) C.length C.length]) ∧ Ext h st'.h ∧ st'.fl = h.length ∧
      st'.h[b1]? = some (.cells ((List.range A.length).map vs) 23 (some 1)) ∧ st'.h[b2]? = some (.cells (cellsF A.length (nth B)) 3 (some 1)) ∧ st'.h[b3]? = some (.cells (cellsF C.length (nth C)) 3 (some 1)) ∧ h.length ≤ b1 ∧ b1 < b2 ∧ b2 < b3 := by
  refine hE.fnC (body := rb17) rfl (by decide) ?_
  unfold rb17
  obtain ⟨v1, v2, v3, v4, v5, v6, v7⟩ := id hv
  rw [DW_seq, DW_ops]
  refine DL_boxed fun h1 p hx1 hlen1 hp1 hb1 => DL_newC fun h2 q hx2 hlen2 hq hqc => ?_
  simp at hb1
  have x2 := hx1.trans hx2
  have hb2 := hb1.ext hx2
  have r0 : rd h2 p 0 = some vA := by have := hb2.rd 0; simpa using this
  have r1 : rd h2 p 1 = some vB := by have := hb2.rd 1; simpa using this
  have r2 : rd h2 p 2 = some vC := by have := hb2.rd 2; simpa using this
  subst eA
  have hA' : ∀ i, i < A.length → rd h2 bA (oA + i) = some (vs i) := fun i hi => x2.rd (hA i hi).1
  have all1 : ((List.range A.length).map vs).all one1 = true := by
    rw [List.all_eq_true]
    intro x hx
    obtain ⟨i, hi, rfl⟩ := List.mem_map.1 hx
    obtain ⟨_, _, _, _, e, _⟩ := (hA i (List.mem_range.1 hi)).2
    rw [e]; rfl
  have e1 := append_empty (H := h2) (fl := h.length) (n := A.length) (c := cA) (el := 23) (size := 1) (bytes := 24) (read_rows hA' hm) all1 (by simp [roomMax]; omega) hm
  generalize hM1 : h2 ++ [O.cells ((List.range A.length).map vs) 23 (some 1)] = M1 at e1
  have y1 : Ext h2 M1 := by rw [← hM1]; exact Ext.snoc _ _
  have c1 : M1[h2.length]? = some (.cells ((List.range A.length).map vs) 23 (some 1)) := by rw [← hM1]; exact get_last
  have l1 : M1.length = h2.length + 1 := by rw [← hM1]; simp
  obtain ⟨aB, bB, oB, cB, rfl, hB2, hB3, hB4, hB5⟩ := id (hB.ext (x2.trans y1))
  obtain rfl := hB2 (by omega)
  have e2 := append_empty (H := M1) (fl := h.length) (n := B.length) (c := cB) (el := 3) (size := 1) (bytes := 8) (read_ints hB3 (by omega)) (by simp [one1]) (by simp [roomMax]; omega) (by omega)
  rw [cells_of_list] at e2
  generalize hM2 : M1 ++ [O.cells (cellsF B.length (nth B)) 3 (some 1)] = M2 at e2
  have y2 : Ext M1 M2 := by rw [← hM2]; exact Ext.snoc _ _
  have c2 : M2[M1.length]? = some (.cells (cellsF B.length (nth B)) 3 (some 1)) := by rw [← hM2]; exact get_last
  have l2 : M2.length = M1.length + 1 := by rw [← hM2]; simp
  obtain ⟨aC, bC, oC, cC, rfl, hC2, hC3, hC4, hC5⟩ := id (hC.ext (x2.trans (y1.trans y2)))
  obtain rfl := hC2 (by omega)
  have e3 := append_empty (H := M2) (fl := h.length) (n := C.length) (c := cC) (el := 3) (size := 1) (bytes := 8) (read_ints hC3 (by omega)) (by simp [one1]) (by simp [roomMax]; omega) (by omega)
  rw [cells_of_list] at e3
  generalize hM3 : M2 ++ [O.cells (cellsF C.length (nth C)) 3 (some 1)] = M3 at e3
  have y3 : Ext M2 M3 := by rw [← hM3]; exact Ext.snoc _ _
  have c3 : M3[M2.length]? = some (.cells (cellsF C.length (nth C)) 3 (some 1)) := by rw [← hM3]; exact get_last
  have l3 : M3.length = M2.length + 1 := by rw [← hM3]; simp
  have q3 := get_ext (y1.trans (y2.trans y3)) hqc
  obtain ⟨M4, w4, z4, l4, a4⟩ := wr_all (cs := [.slice none 0 0, .slice none 0 0, .slice none 0 0]) (vals := [.slice (some ⟨h2.length, 0, none⟩) A.length A.length, .slice (some ⟨M1.length, 0, none⟩) A.length A.length, .slice (some ⟨M2.length, 0, none⟩) C.length C.length]) q3 rfl rfl
  have r1' := y1.rd r1
  have r2' := (y1.trans y2).rd r2
  have mf : min h.length q = h.length := by omega
  have b0 : blk emptyS = [] := rfl
  rw [v2] at e2 c2
  have r4 : rdN M4 q 0 3 = some [.slice (some ⟨h2.length, 0, none⟩) A.length A.length, .slice (some ⟨M1.length, 0, none⟩) A.length A.length, .slice (some ⟨M2.length, 0, none⟩) C.length C.length] := by simp [rdN, z4]
  simp [r0, e1, r1', v2, e2, r2', e3, w4, mf, b0, r4]
  refine ⟨⟨fun h => absurd h (by decide), fun h => absurd h (by decide), fun h => absurd h (by decide), fun h => absurd h (by decide), fun h => absurd h (by decide), fun h => absurd h (by decide)⟩, ?_⟩
  unfold back
  rw [show (Out.ret (Value.agg #[Value.slice (some ⟨h2.length, 0, none⟩) A.length A.length, Value.slice (some ⟨M1.length, 0, none⟩) A.length A.length, Value.slice (some ⟨M2.length, 0, none⟩) C.length C.length])).scalar = false by simp [Out.scalar, scalar, flat1, flat], Bool.false_and, if_neg (by decide)]
  have xh3 := x2.trans (y1.trans (y2.trans y3))
  refine ⟨h2.length, M1.length, M2.length, rfl, ext_of_agree (by have := xh3.len; show h.length ≤ M4.length; omega) fun c hc => ?_, rfl, ?_, ?_, ?_, by omega, by omega, by omega⟩
  · show M4[c]? = h[c]?
    rw [a4 c (by omega)]
    obtain ⟨x, hx⟩ := xh3
    rw [hx, List.getElem?_append_left hc]
  · show M4[h2.length]? = _
    rw [a4 _ (by omega)]; exact get_ext (y2.trans y3) c1
  · show M4[M1.length]? = _
    rw [a4 _ (by omega)]; exact get_ext y3 c2
  · show M4[M2.length]? = _
    rw [a4 _ (by omega)]; exact c3
end Go.Proofs.Ytdbkhecnkhjhpaa
/- Programs that are changed in place. -/
namespace Go.Proofs.Ytdbkhecnkhjhpaa
open Go Go.Ai
set_option linter.unusedSimpArgs false
set_option linter.unusedVariables false
attribute [local instance] Classical.propDecidable

theorem ints_blk {H H' : List O} {v : Value} {xs : List Int} (hv : Ints H v xs) (hag : ∀ x ∈ blk v, H'[x]? = H[x]?) : Ints H' v xs := by
  obtain ⟨a, b, o, c, rfl, h2, h3, h4, h5⟩ := hv
  refine ⟨a, b, o, c, rfl, h2, fun i hi => ?_, h4, h5⟩
  have e := h2 (by omega)
  subst e
  have h1 := h3 i hi
  simp only [rd] at h1 ⊢
  rw [hag b (by simp [blk])]; exact h1
theorem ints_in {H : List O} {v : Value} {xs : List Int} (hv : Ints H v xs) (hn : 0 < xs.length) : ∀ x ∈ blk v, x < H.length := by
  obtain ⟨a, b, o, c, rfl, h2, h3, h4, h5⟩ := hv
  obtain rfl := h2 hn
  intro x hx
  simp [blk] at hx
  subst hx
  exact rd_lt (h3 0 hn)
/-- The first program, by its entries, and its result. -/
structure S5 (M : List O) (p r bA oA cA bB oB cB bC oC cC : Nat) (vs : Nat → Value) (A : List (List Int)) (B C : List Int) (kind : Int) (X : List Int) (xd : Int) (Y : List Int) (yd : Int) (R : List Int) (cs : List Value) : Prop where
  lp : p < M.length
  r0 : rd M p 0 = some (.slice (some ⟨bA, oA, none⟩) A.length cA)
  r1 : rd M p 1 = some (.slice (some ⟨bB, oB, none⟩) A.length cB)
  r2 : rd M p 2 = some (.slice (some ⟨bC, oC, none⟩) C.length cC)
  rN : rdN M p 0 3 = some [.slice (some ⟨bA, oA, none⟩) A.length cA, .slice (some ⟨bB, oB, none⟩) A.length cB, .slice (some ⟨bC, oC, none⟩) C.length cC]
  hp : LpAt M (.agg #[.slice (some ⟨bA, oA, none⟩) A.length cA, .slice (some ⟨bB, oB, none⟩) A.length cB, .slice (some ⟨bC, oC, none⟩) C.length cC]) A B C
  hA : ∀ i, i < A.length → rd M bA (oA + i) = some (vs i) ∧ Ints M (vs i) (nthR A i)
  hB : ∀ i, i < A.length → rd M bB (oB + i) = some (.int .i64 (nth B i))
  hC : ∀ t, t < C.length → rd M bC (oC + t) = some (.int .i64 (nth C t))
  rr : rdN M r 0 6 = some cs
  rk : rd M r 0 = some (.int .i64 kind)
  hr : ResAt M (.agg cs.toArray) kind X xd Y yd R
  ln : cs.length = 6
variable {M : List O} {p r bA oA cA bB oB cB bC oC cC : Nat} {vs : Nat → Value} {A : List (List Int)} {B C X Y R : List Int} {kind xd yd : Int} {cs : List Value}
theorem S5.keep {M' : List O} (S : S5 M p r bA oA cA bB oB cB bC oC cC vs A B C kind X xd Y yd R cs) (k : Keep M M') : S5 M' p r bA oA cA bB oB cB bC oC cC vs A B C kind X xd Y yd R cs :=
  ⟨Nat.lt_of_lt_of_le S.lp k.1, k.rd S.r0, k.rd S.r1, k.rd S.r2, k.rdN S.rN, k.lp S.hp, fun i hi => ⟨k.rd (S.hA i hi).1, k.ints (S.hA i hi).2⟩, fun i hi => k.rd (S.hB i hi), fun t ht => k.rd (S.hC t ht), k.rdN S.rr, k.rd S.rk, k.res S.hr, S.ln⟩

/-- A program in memory of its own, by its entries. -/
structure Q5 (M : List O) (q b1 b2 b3 m n : Nat) (hF : Nat → Value) (F : Nat → List Int) (bF cF : Nat → Int) (H : List O) : Prop where
  keep : Keep M H
  o1 : M.length ≤ b1
  o2 : b1 < b2
  o3 : b2 < b3
  o4 : b3 < q
  st : H[q]? = some (.cells [.slice (some ⟨b1, 0, none⟩) m m, .slice (some ⟨b2, 0, none⟩) m m, .slice (some ⟨b3, 0, none⟩) n n] 25 (some 0))
  c1 : H[b1]? = some (.cells ((List.range m).map hF) 23 (some 1))
  c2 : H[b2]? = some (.cells (cellsF m bF) 3 (some 1))
  c3 : H[b3]? = some (.cells (cellsF n cF) 3 (some 1))
  row : ∀ a, a < m → Ints H (hF a) (F a) ∧ ∀ x ∈ blk (hF a), x ≠ q ∧ x ≠ b1 ∧ x ≠ b2 ∧ x ≠ b3
  iB : ∀ a, a < m → I64 (bF a)
  iC : ∀ t, t < n → I64 (cF t)
variable {q b1 b2 b3 m n : Nat} {hF : Nat → Value} {F : Nat → List Int} {bF cF : Nat → Int} {H : List O}
theorem Q5.ext {H' : List O} (K : Q5 M q b1 b2 b3 m n hF F bF cF H) (e : Ext H H') : Q5 M q b1 b2 b3 m n hF F bF cF H' :=
  ⟨K.keep.ext e, K.o1, K.o2, K.o3, K.o4, get_ext e K.st, get_ext e K.c1, get_ext e K.c2, get_ext e K.c3, fun a ha => ⟨(K.row a ha).1.ext e, (K.row a ha).2⟩, K.iB, K.iC⟩
theorem map_set {α : Type} {f : Nat → α} {m i : Nat} {x : α} (hi : i < m) : ((List.range m).map f).set i x = (List.range m).map fun a => if a = i then x else f a := by
  apply List.ext_getElem?
  intro a
  rw [List.getElem?_set]
  by_cases h : i = a
  · subst h; simp [hi]
  · rw [if_neg h]
    by_cases ha : a < m
    · simp [ha, show ¬ a = i from fun e => h e.symm]
    · simp [ha]
theorem Q5.setRow (K : Q5 M q b1 b2 b3 m n hF F bF cF H) {i : Nat} (hi : i < m) {v : Value} {W : List Int} (hv : Ints H v W) (hb : ∀ x ∈ blk v, x ≠ q ∧ x ≠ b1 ∧ x ≠ b2 ∧ x ≠ b3) :
    ∃ H', wrN H b1 i [v] = some H' ∧ Q5 M q b1 b2 b3 m n (fun a => if a = i then v else hF a) (fun a => if a = i then W else F a) bF cF H' := by
  have o1 := K.o1
  have o2 := K.o2
  have o3 := K.o3
  have o4 := K.o4
  have h1 : one1 v = true := by obtain ⟨_, _, _, _, rfl, _⟩ := hv; rfl
  obtain ⟨H', w, z1, z2, z3⟩ := wr_cell (j := i) (x := v) K.c1 rfl (by simpa using hi) h1
  have es : setL ((List.range m).map hF) i [v] = (List.range m).map fun a => if a = i then v else hF a := by
    simp only [setL]; exact map_set hi
  rw [es] at z1
  refine ⟨H', w, ⟨by rw [z2]; exact K.keep.1, fun c hc => by rw [z3 c (by omega)]; exact K.keep.2 c hc⟩, o1, o2, o3, o4, by rw [z3 q (by omega)]; exact K.st, z1, by rw [z3 b2 (by omega)]; exact K.c2, by rw [z3 b3 (by omega)]; exact K.c3, fun a ha => ?_, K.iB, K.iC⟩
  by_cases e : a = i
  · simp only [if_pos e]
    exact ⟨ints_blk hv fun x hx => z3 x (hb x hx).2.1, hb⟩
  · simp only [if_neg e]
    exact ⟨ints_blk (K.row a ha).1 fun x hx => z3 x ((K.row a ha).2 x hx).2.1, (K.row a ha).2⟩
theorem Q5.setB (K : Q5 M q b1 b2 b3 m n hF F bF cF H) {i : Nat} (hi : i < m) {y : Int} (hy : I64 y) : ∃ H', wrN H b2 i [.int .i64 y] = some H' ∧ Q5 M q b1 b2 b3 m n hF F (fun a => if a = i then y else bF a) cF H' := by
  have o1 := K.o1
  have o2 := K.o2
  have o3 := K.o3
  have o4 := K.o4
  obtain ⟨H', w, z1, z2, z3⟩ := wr_row (x := y) K.c2 hi
  refine ⟨H', w, ⟨by rw [z2]; exact K.keep.1, fun c hc => by rw [z3 c (by omega)]; exact K.keep.2 c hc⟩, o1, o2, o3, o4, by rw [z3 q (by omega)]; exact K.st, by rw [z3 b1 (by omega)]; exact K.c1, z1, by rw [z3 b3 (by omega)]; exact K.c3, fun a ha => ⟨ints_blk (K.row a ha).1 fun x hx => z3 x ((K.row a ha).2 x hx).2.2.1, (K.row a ha).2⟩, fun a ha => ?_, K.iC⟩
  by_cases e : a = i
  · simp only [if_pos e]; exact hy
  · simp only [if_neg e]; exact K.iB a ha
theorem Q5.setC (K : Q5 M q b1 b2 b3 m n hF F bF cF H) {i : Nat} (hi : i < n) {y : Int} (hy : I64 y) : ∃ H', wrN H b3 i [.int .i64 y] = some H' ∧ Q5 M q b1 b2 b3 m n hF F bF (fun a => if a = i then y else cF a) H' := by
  have o1 := K.o1
  have o2 := K.o2
  have o3 := K.o3
  have o4 := K.o4
  obtain ⟨H', w, z1, z2, z3⟩ := wr_row (x := y) K.c3 hi
  refine ⟨H', w, ⟨by rw [z2]; exact K.keep.1, fun c hc => by rw [z3 c (by omega)]; exact K.keep.2 c hc⟩, o1, o2, o3, o4, by rw [z3 q (by omega)]; exact K.st, by rw [z3 b1 (by omega)]; exact K.c1, by rw [z3 b2 (by omega)]; exact K.c2, z1, fun a ha => ⟨ints_blk (K.row a ha).1 fun x hx => z3 x ((K.row a ha).2 x hx).2.2.2, (K.row a ha).2⟩, K.iB, fun a ha => ?_⟩
  by_cases e : a = i
  · simp only [if_pos e]; exact hy
  · simp only [if_neg e]; exact K.iC a ha
theorem cells_ints {b : Nat} {f : Nat → Int} (hb : H[b]? = some (.cells (cellsF n f) 3 (some 1))) (hn : n < 1000) (hf : ∀ t, t < n → I64 (f t)) : Ints H (.slice (some ⟨b, 0, none⟩) n n) (listF n f) := by
  refine ⟨_, b, 0, n, by simp, fun _ => rfl, fun i hi => ?_, fun i => ?_, by simp; omega⟩
  · simp at hi
    simp only [rd, hb, Nat.zero_add]
    rw [cellsF_get hi, listF_nth hi]
  · by_cases hi : i < n
    · rw [listF_nth hi]; exact hf i hi
    · rw [nth_ge (by simp; omega)]; constructor <;> omega
/-- The changed program, as a program. -/
theorem Q5.lp (K : Q5 M q b1 b2 b3 m n hF F bF cF H) (hm : m < 1000) (hn : n < 1000) : LpAt H (.agg #[.slice (some ⟨b1, 0, none⟩) m m, .slice (some ⟨b2, 0, none⟩) m m, .slice (some ⟨b3, 0, none⟩) n n]) (rowsF m F) (listF m bF) (listF n cF) := by
  refine ⟨_, _, _, rfl, ⟨_, b1, 0, m, hF, by simp, fun _ => rfl, fun a ha => ?_, by simp; omega⟩, cells_ints K.c2 hm K.iB, cells_ints K.c3 hn K.iC⟩
  simp only [rowsF_length] at ha
  rw [rowsF_row ha]
  exact ⟨by simp [rd, K.c1, ha], (K.row a ha).1⟩
theorem Q5.rN (K : Q5 M q b1 b2 b3 m n hF F bF cF H) : rdN H q 0 3 = some [.slice (some ⟨b1, 0, none⟩) m m, .slice (some ⟨b2, 0, none⟩) m m, .slice (some ⟨b3, 0, none⟩) n n] := by simp [rdN, K.st]
theorem Q5.r0 (K : Q5 M q b1 b2 b3 m n hF F bF cF H) : rd H q 0 = some (.slice (some ⟨b1, 0, none⟩) m m) := by simp [rd, K.st]
theorem Q5.r1 (K : Q5 M q b1 b2 b3 m n hF F bF cF H) : rd H q 1 = some (.slice (some ⟨b2, 0, none⟩) m m) := by simp [rd, K.st]
theorem Q5.r2 (K : Q5 M q b1 b2 b3 m n hF F bF cF H) : rd H q 2 = some (.slice (some ⟨b3, 0, none⟩) n n) := by simp [rd, K.st]
end Go.Proofs.Ytdbkhecnkhjhpaa
/- The law of equal programs: the changes. -/
namespace Go.Proofs.Ytdbkhecnkhjhpaa
open Go Go.Ai
set_option linter.unusedSimpArgs false
set_option linter.unusedVariables false
attribute [local instance] Classical.propDecidable

def l5L : R := match rb5 with | .seq _ (.seq _ (.seq _ (.seq _ (.seq (.seq _ l) _)))) => l | _ => .skip
def l5B : R := match l5L with | .block _ (.loop (.seq _ (.seq (.block _ b) _))) => b | _ => .skip
def l5S : R := match l5B with | .seq _ (.seq (.seq _ (.block _ s)) _) => s | _ => .skip
def l5c0 : R := match l5S with | .seq _ (.cond _ c _) => c | _ => .skip
def l5S1 : R := match l5S with | .seq _ (.cond _ _ c) => c | _ => .skip
def l5c1 : R := match l5S1 with | .seq _ (.cond _ c _) => c | _ => .skip
def l5S2 : R := match l5S1 with | .seq _ (.cond _ _ c) => c | _ => .skip
def l5c2 : R := match l5S2 with | .seq _ (.cond _ c _) => c | _ => .skip
def l5S3 : R := match l5S2 with | .seq _ (.cond _ _ c) => c | _ => .skip
def l5c3 : R := match l5S3 with | .seq _ (.cond _ c _) => c | _ => .skip
theorem l5S_eq : l5S = .seq (.ops false [⟨some 103, none, .bin .eql (.tmp 101) (.const (.int .i64 0)), 0⟩, ⟨some 102, none, .mv (.tmp 103), 0⟩]) (.cond (.tmp 102) l5c0 l5S1) := rfl
theorem l5S1_eq : l5S1 = .seq (.ops false [⟨some 141, none, .bin .eql (.tmp 101) (.const (.int .i64 1)), 0⟩, ⟨some 140, none, .mv (.tmp 141), 0⟩]) (.cond (.tmp 140) l5c1 l5S2) := rfl
theorem l5S2_eq : l5S2 = .seq (.ops false [⟨some 202, none, .bin .eql (.tmp 101) (.const (.int .i64 2)), 0⟩, ⟨some 201, none, .mv (.tmp 202), 0⟩]) (.cond (.tmp 201) l5c2 l5S3) := rfl
theorem l5S3_eq : l5S3 = .seq (.ops false [⟨some 226, none, .bin .eql (.tmp 101) (.const (.int .i64 3)), 0⟩, ⟨some 225, none, .mv (.tmp 226), 0⟩]) (.cond (.tmp 225) l5c3 .skip) := rfl

def Fr5 (p r q : Nat) (i j k l kd : Nat) (mm : Int) (fr : Fr) : Prop := get fr 1 = .int .i64 i ∧ get fr 2 = .int .i64 j ∧ get fr 3 = .int .i64 k ∧ get fr 4 = .int .i64 l ∧ get fr 5 = .int .i64 mm ∧ get fr 6 = .pointer (some ⟨p, 0, none⟩) ∧ get fr 13 = .pointer (some ⟨r, 0, none⟩) ∧ get fr 15 = .int .i64 kd ∧ get fr 16 = .pointer (some ⟨q, 0, none⟩)

variable {M H : List O} {p r bA oA cA bB oB cB bC oC cC : Nat} {vs : Nat → Value} {A : List (List Int)} {B C X Y R : List Int} {kind xd yd : Int} {cs : List Value}
  {q b1 b2 b3 fl i j k l kd : Nat} {mm : Int} {fr : Fr} {Q : Post}
/-- The changed program has the same solutions in other words. -/
def Done5 (M : List O) (p r q b1 b2 b3 : Nat) (A : List (List Int)) (B C : List Int) (fl i j k l kd : Nat) (mm : Int) (Q : Post) : Prop :=
  ∀ fr' H' hF F bF cF, Fr5 p r q i j k l kd mm fr' → Q5 M q b1 b2 b3 A.length C.length hF F bF cF H' → (Sim A B C (rowsF A.length F) (listF A.length bF) (listF C.length cF) ∧ Sim (rowsF A.length F) (listF A.length bF) (listF C.length cF) A B C) → Q .normal fr' ⟨H', fl⟩
theorem ints_cell {H : List O} {v : Value} {xs : List Int} (hv : Ints H v xs) : v.cells = #[v] := by
  obtain ⟨_, _, _, _, rfl, _⟩ := hv; rfl
theorem S5.rowBlk (S : S5 M p r bA oA cA bB oB cB bC oC cC vs A B C kind X xd Y yd R cs) (hv : Valid A B C) {hF : Nat → Value} {F : Nat → List Int} {bF cF : Nat → Int} (K : Q5 M q b1 b2 b3 A.length C.length hF F bF cF H) {a : Nat} (ha : a < A.length) :
    Ints H (vs a) (nthR A a) ∧ ∀ x ∈ blk (vs a), x ≠ q ∧ x ≠ b1 ∧ x ≠ b2 ∧ x ≠ b3 := by
  have hl := (hv.2.2.2.2.2.2 a ha).1
  have h3 := hv.2.2.1
  have o1 := K.o1
  have o2 := K.o2
  have o3 := K.o3
  have o4 := K.o4
  refine ⟨K.keep.ints (S.hA a ha).2, fun x hx => ?_⟩
  have := ints_in (S.hA a ha).2 (by omega) x hx
  omega
theorem case0 (S : S5 M p r bA oA cA bB oB cB bC oC cC vs A B C kind X xd Y yd R cs) (hv : Valid A B C) (hi : i < A.length) (hj : j < A.length) (hfl : fl ≤ M.length) (g : Fr5 p r q i j k l kd mm fr)
    (K : Q5 M q b1 b2 b3 A.length C.length vs (nthR A) (nth B) (nth C) H) (hQ : Done5 M p r q b1 b2 b3 A B C fl i j k l kd mm Q) : DW E3 l5c0 fr ⟨H, fl⟩ Q := by
  obtain ⟨g1, g2, g3, g4, g5, g6, g13, g15, g16⟩ := g
  obtain ⟨v1, v2, v3, v4, v5, v6, v7⟩ := id hv
  have o1 := K.o1
  have o2 := K.o2
  have o3 := K.o3
  have o4 := K.o4
  have iBn : ∀ a, a < A.length → I64 (nth B a) := fun a ha => by have := v5 a (by omega); constructor <;> omega
  have SH := S.keep K.keep
  obtain ⟨rj1, rj2⟩ := S.rowBlk hv K hj
  obtain ⟨H1, w1, K1⟩ := K.setRow hi rj1 rj2
  have S1 := S.keep K1.keep
  obtain ⟨ri1, ri2⟩ := S.rowBlk hv K1 hi
  obtain ⟨H2, w2, K2⟩ := K1.setRow hj ri1 ri2
  have S2 := S.keep K2.keep
  obtain ⟨H3, w3, K3⟩ := K2.setB hi (iBn j hj)
  have S3 := S.keep K3.keep
  obtain ⟨H4, w4, K4⟩ := K3.setB hj (iBn i hi)
  have m1 : min fl b1 = fl := by omega
  have m2 : min fl b2 = fl := by omega
  have d1 : (i : Int) < A.length := by omega
  have d2 : (j : Int) < A.length := by omega
  have ej := ints_cell rj1
  have ei := ints_cell ri1
  unfold l5c0 l5S l5B l5L rb5
  simp [ei, ej, g1, g2, g3, g4, g5, g6, g13, g15, g16, K.r0, SH.r0, (SH.hA j hj).1, hi, hj, w1, m1, K1.r0, S1.r0, (S1.hA i hi).1, w2, K2.r1, S2.r1, S2.hB j hj, w3, m2, K3.r1, S3.r1, S3.hB i hi, w4]
  refine ⟨⟨fun h => absurd h (by decide), fun h => absurd h (by decide), fun h => absurd h (by decide)⟩, ⟨fun h => absurd h (by decide), fun h => absurd h (by decide), fun h => absurd h (by decide)⟩, ?_⟩
  refine hQ _ H4 _ _ _ _ ?_ K4 (tr_rows v2 (fun t _ => rfl) fun X d => ⟨fun h a ha => ?_, fun h a ha => ?_⟩)
  · simp [Fr5, g1, g2, g3, g4, g5, g6, g13, g15, g16]
  · by_cases e1 : a = j
    · simp only [if_pos e1]; exact h i hi
    · simp only [if_neg e1]
      by_cases e2 : a = i
      · simp only [if_pos e2]; exact h j hj
      · simp only [if_neg e2]; exact h a ha
  · by_cases e2 : a = i
    · have := h j hj
      simp only [if_pos rfl] at this
      rw [e2]; simpa using this
    · by_cases e1 : a = j
      · have := h i hi
        by_cases e3 : i = j
        · omega
        · simp only [if_neg e3, if_pos rfl] at this
          rw [e1]; simpa using this
      · have := h a ha
        simp only [if_neg e1, if_neg e2] at this
        exact this
theorem case2 (S : S5 M p r bA oA cA bB oB cB bC oC cC vs A B C kind X xd Y yd R cs) (hv : Valid A B C) (hi : i < A.length) (hm : mm ≠ 0 ∧ -1000 ≤ mm ∧ mm ≤ 1000) (hfl : fl ≤ M.length) (g : Fr5 p r q i j k l kd mm fr)
    (K : Q5 M q b1 b2 b3 A.length C.length vs (nthR A) (nth B) (nth C) H) (hQ : Done5 M p r q b1 b2 b3 A B C fl i j k l kd mm Q) : DW E3 l5c2 fr ⟨H, fl⟩ Q := by
  obtain ⟨g1, g2, g3, g4, g5, g6, g13, g15, g16⟩ := g
  obtain ⟨v1, v2, v3, v4, v5, v6, v7⟩ := id hv
  have o1 := K.o1
  have o2 := K.o2
  have o3 := K.o3
  have o4 := K.o4
  have hqH := (List.getElem?_eq_some_iff.1 K.st).1
  have SH := S.keep K.keep
  obtain ⟨ri1, ri2⟩ := S.rowBlk hv K hi
  obtain ⟨hl, hw⟩ := v7 i hi
  have hbnd : ∀ t, t < (nthR A i).length → I64 (mm * nth (nthR A i) t) := fun t ht => by
    have b := mul_bound (a := 1000) (b := 1000000) (x := mm) (y := nth (nthR A i) t) (by omega) (hw t ht)
    constructor <;> omega
  obtain ⟨out, st', d18, v', rfl, xH, iv, hf, hbl⟩ := times18 E3_lp ri1 (m := mm) (by omega) hbnd
  obtain ⟨H1, f1⟩ := st'
  simp only at xH iv hf hbl
  have K1 := K.ext xH
  obtain ⟨H2, w2, K2⟩ := K1.setRow hi iv (fun x hx => by have := (hbl x hx).1; omega)
  have S2 := S.keep K2.keep
  have bI := v5 i (by omega)
  have b := mul_bound (a := 1000) (b := 1000000) (x := mm) (y := nth B i) (by omega) bI
  obtain ⟨H3, w3, K3⟩ := K2.setB hi (y := mm * nth B i) (by constructor <;> omega)
  have m1 : min fl b1 = fl := by omega
  have m2 : min fl b2 = fl := by omega
  have ev := ints_cell iv
  have ew : IntKind.i64.wrap (mm * nth B i) = mm * nth B i := by rw [w64_id] <;> omega
  unfold l5c2 l5S2 l5S1 l5S l5B l5L rb5
  simp [ev, g1, g2, g3, g4, g5, g6, g13, g15, g16, K.r0, SH.r0, (SH.hA i hi).1, hi, DC_of d18, joined_le (show fl ≤ f1 by omega), w2, m1, K2.r1, S2.r1, S2.hB i hi, ew, w3, m2]
  refine ⟨⟨fun h => absurd h (by decide), fun h => absurd h (by decide), fun _ => by omega⟩, ⟨rfl, fun h => absurd h (by decide), fun h => absurd h (by decide), fun h => absurd h (by decide)⟩, ⟨fun h => absurd h (by decide), fun h => absurd h (by decide), fun h => absurd h (by decide)⟩, ?_⟩
  have hdot : ∀ X, dotZ (listF (nthR A i).length fun t => mm * nth (nthR A i) t) X C.length = mm * dotZ (nthR A i) X C.length := fun X => dotZ_mul fun t ht => by rw [listF_nth (by omega)]
  refine hQ _ H3 _ _ _ _ ?_ K3 (tr_rows v2 (fun t _ => rfl) fun X d => ⟨fun h a ha => ?_, fun h a ha => ?_⟩)
  · simp [Fr5, g1, g2, g3, g4, g5, g6, g13, g15, g16]
  · by_cases e1 : a = i
    · simp only [if_pos e1]; rw [hdot, h i hi]; exact Int.mul_left_comm _ _ _
    · simp only [if_neg e1]; exact h a ha
  · have h1 := h a ha
    by_cases e1 : a = i
    · simp only [if_pos e1] at h1
      rw [hdot, Int.mul_left_comm] at h1
      rw [e1]
      exact cancelZ hm.1 h1
    · simp only [if_neg e1] at h1; exact h1
theorem case3e (hij : i = j) (g : Fr5 p r q i j k l kd mm fr) (hQ : ∀ fr', Fr5 p r q i j k l kd mm fr' → Q (.exit 1) fr' ⟨H, fl⟩) : DW E3 l5c3 fr ⟨H, fl⟩ Q := by
  obtain ⟨g1, g2, g3, g4, g5, g6, g13, g15, g16⟩ := g
  subst hij
  unfold l5c3 l5S3 l5S2 l5S1 l5S l5B l5L rb5
  simp [g1, g2]
  exact hQ _ (by simp [Fr5, g1, g2, g3, g4, g5, g6, g13, g15, g16])
theorem case3 (S : S5 M p r bA oA cA bB oB cB bC oC cC vs A B C kind X xd Y yd R cs) (hv : Valid A B C) (hi : i < A.length) (hj : j < A.length) (hij : i ≠ j) (hm : mm ≠ 0 ∧ -1000 ≤ mm ∧ mm ≤ 1000) (hfl : fl ≤ M.length) (g : Fr5 p r q i j k l kd mm fr)
    (K : Q5 M q b1 b2 b3 A.length C.length vs (nthR A) (nth B) (nth C) H) (hQ : Done5 M p r q b1 b2 b3 A B C fl i j k l kd mm Q) : DW E3 l5c3 fr ⟨H, fl⟩ Q := by
  obtain ⟨g1, g2, g3, g4, g5, g6, g13, g15, g16⟩ := g
  obtain ⟨v1, v2, v3, v4, v5, v6, v7⟩ := id hv
  have o1 := K.o1
  have o2 := K.o2
  have o3 := K.o3
  have o4 := K.o4
  have hqH := (List.getElem?_eq_some_iff.1 K.st).1
  have SH := S.keep K.keep
  obtain ⟨ri1, ri2⟩ := S.rowBlk hv K hi
  obtain ⟨rj1, rj2⟩ := S.rowBlk hv K hj
  obtain ⟨hl, hw⟩ := v7 i hi
  obtain ⟨hl', hw'⟩ := v7 j hj
  have hmb : ∀ t, t < (nthR A j).length → -1000000000 ≤ mm * nth (nthR A j) t ∧ mm * nth (nthR A j) t ≤ 1000000000 := fun t ht => by
    have b := mul_bound (a := 1000) (b := 1000000) (x := mm) (y := nth (nthR A j) t) (by omega) (hw' t ht)
    omega
  obtain ⟨out, st', d18, v', rfl, xH, iv, hf, hbl⟩ := times18 E3_lp rj1 (m := mm) (by omega) (fun t ht => by have := hmb t ht; constructor <;> omega)
  obtain ⟨H1, f1⟩ := st'
  simp only at xH iv hf hbl
  obtain ⟨out, st', d19, v'', rfl, xH2, iv2, hf2, hbl2⟩ := plus19 E3_lp (h := H1) (ri1.ext xH) iv (by rw [listF_length]; omega) (by omega) (fun t ht => by
    rw [listF_nth (by omega)]
    have := hmb t (by omega)
    have := hw t ht
    constructor <;> omega)
  obtain ⟨H2, f2⟩ := st'
  simp only at xH2 iv2 hf2 hbl2
  have hxl := xH.len
  have K2 := K.ext (xH.trans xH2)
  obtain ⟨H3, w3, K3⟩ := K2.setRow hi iv2 (fun x hx => by have := (hbl2 x hx).1; omega)
  have S3 := S.keep K3.keep
  have bI := v5 i (by omega)
  have bJ := v5 j (by omega)
  have b := mul_bound (a := 1000) (b := 1000000) (x := mm) (y := nth B j) (by omega) bJ
  obtain ⟨H4, w4, K4⟩ := K3.setB hi (y := nth B i + mm * nth B j) (by constructor <;> omega)
  have m1 : min fl b1 = fl := by omega
  have m2 : min fl b2 = fl := by omega
  have ev := ints_cell iv2
  have ew : IntKind.i64.wrap (nth B i + IntKind.i64.wrap (mm * nth B j)) = nth B i + mm * nth B j := by
    have : IntKind.i64.wrap (mm * nth B j) = mm * nth B j := by rw [w64_id] <;> omega
    rw [this, w64_id] <;> omega
  have ew2 : IntKind.i64.wrap (nth B i + mm * nth B j) = nth B i + mm * nth B j := by rw [w64_id] <;> omega
  have hne : ¬ (i : Int) = j := by omega
  have rr1 := xH.rd (SH.hA i hi).1
  unfold l5c3 l5S3 l5S2 l5S1 l5S l5B l5L rb5
  simp [ev, hij, g1, g2, g3, g4, g5, g6, g13, g15, g16, K.r0, SH.r0, (SH.hA i hi).1, (SH.hA j hj).1, hi, hj, DC_of d18, DC_of d19, joined_le (show fl ≤ f1 by omega), joined_le (show fl ≤ f2 by omega), w3, m1, K3.r1, S3.r1, S3.hB i hi, S3.hB j hj, ew, ew2, w4, m2]
  refine ⟨⟨fun _ => by omega, fun _ => by omega, fun _ => by omega, fun _ => by omega, fun _ => by omega⟩, ⟨fun _ => ⟨⟨by omega, fun _ => by omega⟩, by omega, fun _ => by omega⟩, fun _ => by omega, fun _ => by omega, fun _ => by omega, fun _ => by omega, fun _ => by omega⟩, ⟨rfl, rfl, fun h => absurd h (by decide), fun h => absurd h (by decide), fun h => absurd h (by decide), fun h => absurd h (by decide), fun h => absurd h (by decide)⟩, ⟨fun h => absurd h (by decide), fun h => absurd h (by decide), fun h => absurd h (by decide), fun h => absurd h (by decide), fun h => absurd h (by decide)⟩, ?_⟩
  have hdot : ∀ X, dotZ (listF (nthR A i).length fun t => nth (nthR A i) t + nth (listF (nthR A j).length fun t => mm * nth (nthR A j) t) t) X C.length = dotZ (nthR A i) X C.length + mm * dotZ (nthR A j) X C.length := fun X => by
    rw [dotZ_plus (u := nthR A i) (v := listF (nthR A j).length fun t => mm * nth (nthR A j) t) fun t ht => by rw [listF_nth (by omega)], dotZ_mul (u := nthR A j) (v := listF (nthR A j).length fun t => mm * nth (nthR A j) t) fun t ht => by rw [listF_nth (by omega)]]
  refine hQ _ H4 _ _ _ _ ?_ K4 (tr_rows v2 (fun t _ => rfl) fun X d => ⟨fun h a ha => ?_, fun h a ha => ?_⟩)
  · simp [Fr5, g1, g2, g3, g4, g5, g6, g13, g15, g16]
  · by_cases e1 : a = i
    · simp only [if_pos e1]; rw [hdot, h i hi, h j hj]; grind
    · simp only [if_neg e1]; exact h a ha
  · have h1 := h a ha
    by_cases e1 : a = i
    · have h2 := h j hj
      simp only [if_pos e1] at h1
      simp only [if_neg (fun e : j = i => hij e.symm)] at h2
      rw [hdot, h2] at h1
      rw [e1]
      have : d * (nth B i + mm * nth B j) = d * nth B i + mm * (d * nth B j) := by grind
      omega
    · simp only [if_neg e1] at h1; exact h1
end Go.Proofs.Ytdbkhecnkhjhpaa
/- The law of equal programs: columns that are exchanged. -/
namespace Go.Proofs.Ytdbkhecnkhjhpaa
open Go Go.Ai
set_option linter.unusedSimpArgs false
set_option linter.unusedVariables false
attribute [local instance] Classical.propDecidable
variable {M H : List O} {p r bA oA cA bB oB cB bC oC cC : Nat} {vs : Nat → Value} {A : List (List Int)} {B C X Y R : List Int} {kind xd yd : Int} {cs : List Value}
  {q b1 b2 b3 fl i j k l kd : Nat} {mm : Int} {fr : Fr} {Q : Post}

theorem swp_val (f : Nat → Int) (k l t : Nat) : (if t = l then f k else if t = k then f l else f t) = f (swp k l t) := by
  unfold swp
  by_cases h1 : t = l
  · rw [if_pos h1]
    by_cases h2 : t = k
    · rw [if_pos h2]; congr 1; omega
    · rw [if_neg h2, if_pos h1]
  · rw [if_neg h1]
    by_cases h2 : t = k
    · rw [if_pos h2, if_pos h2]
    · rw [if_neg h2, if_neg h2, if_neg h1]
theorem case1 (S : S5 M p r bA oA cA bB oB cB bC oC cC vs A B C kind X xd Y yd R cs) (hv : Valid A B C) (hk : k < C.length) (hl : l < C.length) (hfl : fl ≤ M.length) (g : Fr5 p r q i j k l kd mm fr)
    (K : Q5 M q b1 b2 b3 A.length C.length vs (nthR A) (nth B) (nth C) H) (hQ : Done5 M p r q b1 b2 b3 A B C fl i j k l kd mm Q) : DW E3 l5c1 fr ⟨H, fl⟩ Q := by
  obtain ⟨g1, g2, g3, g4, g5, g6, g13, g15, g16⟩ := g
  obtain ⟨v1, v2, v3, v4, v5, v6, v7⟩ := id hv
  have o1 := K.o1
  have o2 := K.o2
  have o3 := K.o3
  have o4 := K.o4
  have iCn : ∀ t, t < C.length → I64 (nth C t) := fun t ht => by have := v6 t ht; constructor <;> omega
  unfold l5c1 l5S1 l5S l5B l5L rb5
  simp
  refine DW_loop (fun kk fr st => ∃ x hF F H, x + kk = A.length ∧ st = ⟨H, fl⟩ ∧ Fr5 p r q i j k l kd mm fr ∧ get fr 17 = .int .i64 (x : Nat) ∧ Q5 M q b1 b2 b3 A.length C.length hF F (nth B) (nth C) H ∧ (∀ a, a < A.length → x ≤ a → F a = nthR A a) ∧ ∀ a, a < x → F a = listF C.length fun t => nth (nthR A a) (swp k l t)) ?_ (k := A.length)
    ⟨0, vs, nthR A, H, by simp, rfl, by simp [Fr5, g1, g2, g3, g4, g5, g6, g13, g15, g16], by simp, K, fun a _ _ => rfl, fun a ha => by omega⟩
  rintro kk fr st ⟨x, hF, F, H, hx, rfl, ⟨g1, g2, g3, g4, g5, g6, g13, g15, g16⟩, g17, K, hF1, hF2⟩
  by_cases hlt : x < A.length
  · obtain ⟨rx1, rx2⟩ := K.row x hlt
    have hrow := hF1 x hlt (Nat.le_refl _)
    rw [hrow] at rx1
    obtain ⟨hl2, hw⟩ := v7 x hlt
    have hqH := (List.getElem?_eq_some_iff.1 K.st).1
    obtain ⟨a, b, o, c, ehF, h2, h3, h4, h5⟩ := id rx1
    obtain rfl := h2 (by omega)
    have e1 := append_empty (H := H) (fl := fl) (n := (nthR A x).length) (c := c) (el := 3) (size := 1) (bytes := 8) (read_ints h3 (by omega)) (by simp [one1]) (by simp [roomMax]; omega) (by omega)
    rw [cells_of_list] at e1
    have rb1 : rd H b1 x = some (hF x) := by simp [rd, K.c1, hlt]
    have w1 := wrN_last (h := H) (N := (nthR A x).length) (j := k) (f := nth (nthR A x)) (el := 3) (sz := 1) (x := nth (nthR A x) l) (by omega)
    have w2 := wrN_last (h := H) (N := (nthR A x).length) (j := l) (f := fun t => if t = k then nth (nthR A x) l else nth (nthR A x) t) (el := 3) (sz := 1) (x := nth (nthR A x) k) (by omega)
    have ef : (fun t => if t = l then nth (nthR A x) k else if t = k then nth (nthR A x) l else nth (nthR A x) t) = fun t => nth (nthR A x) (swp k l t) := funext fun t => swp_val _ k l t
    rw [ef] at w2
    have iv : Ints (H ++ [O.cells (cellsF (nthR A x).length fun t => nth (nthR A x) (swp k l t)) 3 (some 1)]) (.slice (some ⟨H.length, 0, none⟩) (nthR A x).length (nthR A x).length) (listF (nthR A x).length fun t => nth (nthR A x) (swp k l t)) :=
      cells_ints get_last (by omega) fun t ht => h4 _
    obtain ⟨H2, w3, K2⟩ := (K.ext (Ext.snoc H [O.cells (cellsF (nthR A x).length fun t => nth (nthR A x) (swp k l t)) 3 (some 1)])).setRow hlt iv (fun y hy => by simp [blk] at hy; subst hy; omega)
    have r0a := (K.ext (Ext.snoc H [O.cells (cellsF (nthR A x).length (nth (nthR A x))) 3 (some 1)])).r0
    have r0b := (K.ext (Ext.snoc H [O.cells (cellsF (nthR A x).length fun t => if t = k then nth (nthR A x) l else nth (nthR A x) t) 3 (some 1)])).r0
    have r0c := (K.ext (Ext.snoc H [O.cells (cellsF (nthR A x).length fun t => nth (nthR A x) (swp k l t)) 3 (some 1)])).r0
    have rb1a := rd_append rb1 [O.cells (cellsF (nthR A x).length (nth (nthR A x))) 3 (some 1)]
    have rb1b := rd_append rb1 [O.cells (cellsF (nthR A x).length fun t => if t = k then nth (nthR A x) l else nth (nthR A x) t) 3 (some 1)]
    have rla := rd_append (h3 l (by omega)) [O.cells (cellsF (nthR A x).length (nth (nthR A x))) 3 (some 1)]
    have rkb := rd_append (h3 k (by omega)) [O.cells (cellsF (nthR A x).length fun t => if t = k then nth (nthR A x) l else nth (nthR A x) t) 3 (some 1)]
    have m0 : min fl H.length = fl := by omega
    have m1 : min fl b1 = fl := by omega
    have dk : (k : Int) < (nthR A x).length := by omega
    have dl : (l : Int) < (nthR A x).length := by omega
    simp [g1, g2, g3, g4, g5, g6, g13, g15, g16, g17, K.r0, hlt, rb1, ehF, e1, r0a, rb1a, rla, w1, m0, eq_true dk, eq_true dl, r0b, rb1b, rkb, w2, r0c, w3, m1]
    refine ⟨kk - 1, by omega, x + 1, by omega, by simp [Fr5, g1, g2, g3, g4, g5, g6, g13, g15, g16], by rw [w64_id] <;> omega, _, _, K2, fun a ha hxa => ?_, fun a ha => ?_⟩
    · simp only [if_neg (show ¬ a = x by omega)]; exact hF1 a ha (by omega)
    · by_cases e : a = x
      · simp only [if_pos e]; rw [e, hl2]
      · simp only [if_neg e]; exact hF2 a (by omega)
  · have : x = A.length := by omega
    subst this
    have SH := S.keep K.keep
    obtain ⟨H1, w1, K1⟩ := K.setC hk (iCn l hl)
    have S1 := S.keep K1.keep
    obtain ⟨H2, w2, K2⟩ := K1.setC hl (iCn k hk)
    have m3 : min fl b3 = fl := by omega
    simp [g1, g2, g3, g4, g5, g6, g13, g15, g16, g17, K.r0, K.r2, SH.r2, SH.hC l hl, hk, hl, w1, m3, K1.r2, S1.r2, S1.hC k hk, w2]
    refine ⟨⟨fun h => absurd h (by decide), fun h => absurd h (by decide), fun h => absurd h (by decide)⟩, ?_⟩
    refine hQ _ H2 _ _ _ _ ?_ K2 (tr_cols v2 hk hl (fun a _ => rfl) (fun t ht => swp_val (nth C) k l t) (fun a ha t ht => by rw [hF2 a ha, listF_nth ht]))
    simp [Fr5, g1, g2, g3, g4, g5, g6, g13, g15, g16]
end Go.Proofs.Ytdbkhecnkhjhpaa
/- The law of equal programs: one round. -/
namespace Go.Proofs.Ytdbkhecnkhjhpaa
open Go Go.Ai
set_option linter.unusedSimpArgs false
set_option linter.unusedVariables false
attribute [local instance] Classical.propDecidable
variable {M H : List O} {p r bA oA cA bB oB cB bC oC cC : Nat} {vs : Nat → Value} {A : List (List Int)} {B C X Y R : List Int} {kind xd yd : Int} {cs : List Value}
  {q b1 b2 b3 fl i j k l kd : Nat} {mm : Int} {fr : Fr} {Q : Post}

theorem errS_ok5 (h : errS A B C = 0) : Valid A B C := by
  unfold errS at h
  split at h
  · assumption
  · omega
def l5V : Ai.R := match l5B with | .seq _ (.seq _ v) => v | _ => .skip
def l5K : Ai.R := match l5B with | .seq k _ => k | _ => .skip
def l5J : Ai.R := match l5B with | .seq _ (.seq (.seq j _) _) => j | _ => .skip
theorem l5B_eq : l5B = .seq l5K (.seq (.seq l5J (.block 2 l5S)) l5V) := rfl
theorem l5J_eq : l5J = .ops false [⟨some 101, none, .mv (.tmp 15), 0⟩] := rfl
def Fr5a (p r : Nat) (i j k l kd : Nat) (mm : Int) (fr : Fr) : Prop := get fr 1 = .int .i64 i ∧ get fr 2 = .int .i64 j ∧ get fr 3 = .int .i64 k ∧ get fr 4 = .int .i64 l ∧ get fr 5 = .int .i64 mm ∧ get fr 6 = .pointer (some ⟨p, 0, none⟩) ∧ get fr 13 = .pointer (some ⟨r, 0, none⟩) ∧ get fr 15 = .int .i64 kd
theorem Fr5.toA (g : Fr5 p r q i j k l kd mm fr) : Fr5a p r i j k l kd mm fr := ⟨g.1, g.2.1, g.2.2.1, g.2.2.2.1, g.2.2.2.2.1, g.2.2.2.2.2.1, g.2.2.2.2.2.2.1, g.2.2.2.2.2.2.2.1⟩
theorem value_of {h : List O} {v w : Value} {A : List (List Int)} {B C X Y R : List Int} {kind xd yd : Int} (hp : LpAt h v A B C) (hr : ResAt h w kind X xd Y yd R) (hv : Valid A B C) (hR : Right A B C kind X xd Y yd R) :
    DR E3 10 [v, w] ⟨h, h.length⟩ (.ret (.tuple #[.int .i64 (if kind = 1 then valN C X xd else 0), .int .i64 (if kind = 1 then valD C X xd else 0), .int .i64 (if kind = 1 then 0 else 5)])) ⟨h, h.length⟩ := by
  have l10 := value10 E3_lp hp hr
  have eV : errV A B C kind X xd Y yd R = if kind = 1 then 0 else 5 := by simp [errV, hv, hR]
  rw [eV] at l10
  by_cases c : kind = 1
  · simpa [c] using l10
  · simpa [c] using l10
theorem st5V (S : S5 M p r bA oA cA bB oB cB bC oC cC vs A B C kind X xd Y yd R cs) (hv : Valid A B C) (hR : Right A B C kind X xd Y yd R) (hfl : fl ≤ M.length) (g : Fr5 p r q i j k l kd mm fr) {hF : Nat → Value} {F : Nat → List Int} {bF cF : Nat → Int}
    (K : Q5 M q b1 b2 b3 A.length C.length hF F bF cF H) (hs : Sim A B C (rowsF A.length F) (listF A.length bF) (listF C.length cF) ∧ Sim (rowsF A.length F) (listF A.length bF) (listF C.length cF) A B C)
    (hQn : ∀ fr' M', Fr5a p r i j k l kd mm fr' → Keep M M' → Q .normal fr' ⟨M', fl⟩) (hQe : ∀ fr' M', Fr5a p r i j k l kd mm fr' → Keep M M' → Q (.exit 1) fr' ⟨M', fl⟩) : DW E3 l5V fr ⟨H, fl⟩ Q := by
  obtain ⟨g1, g2, g3, g4, g5, g6, g13, g15, g16⟩ := g
  obtain ⟨v1, v2, v3, v4, v5, v6, v7⟩ := id hv
  have hq := K.lp (by omega) (by omega)
  have rNq := K.rN
  have hkM := K.keep.1
  obtain ⟨kind', xd', yd', X', Y', R', w', H', d16, hr', hok, hno, hk⟩ := solve_at hq
  obtain ⟨M5, cs', rfl, hcl, wM, eM, lM, rM, rK, hrM⟩ := put_res hr'
  have k5 := hk.ext eM
  have hk1 := hk.1
  have S5' := S.keep (K.keep.trans k5)
  have rNq5 := k5.rdN rNq
  have hq5 := k5.lp hq
  have mf : min fl H'.length = fl := by omega
  have kMM : Keep M M5 := K.keep.trans k5
  simp only [zeroRes6] at wM
  have rk := S5'.rk
  have rr := S5'.rr
  have rN := S5'.rN
  have hfH : fl ≤ H.length := by omega
  unfold l5V l5B l5L rb5
  by_cases he : errS (rowsF A.length F) (listF A.length bF) (listF C.length cF) = 0
  · have hv' := errS_ok5 he
    have hR' := hok he
    rw [he] at d16
    obtain ⟨ek, eval⟩ := sim_eq hv hv' hs.1 hs.2 hR hR'
    subst ek
    have l1 := value_of S5'.hp S5'.hr hv hR
    have l2 := value_of hq5 hrM hv' hR'
    by_cases c : kind = 1
    · obtain ⟨q1, q2⟩ := eval c
      simp only [if_pos c] at l1 l2
      rw [← q1, ← q2] at l2
      simp [g1, g2, g3, g4, g5, g6, g13, g15, g16, rNq, DC_of d16, joined_le hfH, wM, mf, eq_true hcl, rN, rr, DC_of l1, rNq5, rM, DC_of l2, rk, rK]
      exact hQn _ M5 (by simp [Fr5a, g1, g2, g3, g4, g5, g6, g13, g15]) kMM
    · simp only [if_neg c] at l1 l2
      simp [g1, g2, g3, g4, g5, g6, g13, g15, g16, rNq, DC_of d16, joined_le hfH, wM, mf, eq_true hcl, rN, rr, DC_of l1, rNq5, rM, DC_of l2, rk, rK]
      exact hQn _ M5 (by simp [Fr5a, g1, g2, g3, g4, g5, g6, g13, g15]) kMM
  · simp [g1, g2, g3, g4, g5, g6, g13, g15, g16, rNq, DC_of d16, joined_le hfH, wM, mf, eq_true hcl, he]
    exact hQe _ M5 (by simp [Fr5a, g1, g2, g3, g4, g5, g6, g13, g15]) kMM
theorem st5K (S : S5 M p r bA oA cA bB oB cB bC oC cC vs A B C kind X xd Y yd R cs) (hv : Valid A B C) (hm : 0 < A.length) (hfl : fl ≤ M.length) (g : Fr5a p r i j k l kd mm fr)
    (hQ : ∀ fr' H q b1 b2 b3, Fr5 p r q i j k l kd mm fr' → Q5 M q b1 b2 b3 A.length C.length vs (nthR A) (nth B) (nth C) H → Q .normal fr' ⟨H, fl⟩) : DW E3 l5K fr ⟨M, fl⟩ Q := by
  obtain ⟨g1, g2, g3, g4, g5, g6, g13, g15⟩ := g
  obtain ⟨v1, v2, v3, v4, v5, v6, v7⟩ := id hv
  obtain ⟨xA, xB, xC, e, hA, hB, hC⟩ := S.hp.out
  simp only [Value.agg.injEq, Array.mk.injEq, List.cons.injEq, and_true] at e
  obtain ⟨rfl, rfl, rfl⟩ := e
  obtain ⟨out, st', d17, b1, b2, b3, rfl, xH, hf, c1, c2, c3, o1, o2, o3⟩ := copied17 E3_lp (h := M) (cA := cA) hv hm rfl S.hA hB hC
  obtain ⟨H1, f1⟩ := st'
  simp only at xH hf c1 c2 c3
  have hxl := xH.len
  have hl3 := (List.getElem?_eq_some_iff.1 c3).1
  have rN := S.rN
  have mf : min fl H1.length = fl := by omega
  obtain ⟨H2, eH2⟩ : ∃ H2, H2 = H1 ++ [O.cells [.slice (some ⟨b1, 0, none⟩) A.length A.length, .slice (some ⟨b2, 0, none⟩) A.length A.length, .slice (some ⟨b3, 0, none⟩) C.length C.length] 25 (some 0)] := ⟨_, rfl⟩
  have x2 : Ext H1 H2 := ⟨_, eH2⟩
  have z2 : H2[H1.length]? = some (O.cells [.slice (some ⟨b1, 0, none⟩) A.length A.length, .slice (some ⟨b2, 0, none⟩) A.length A.length, .slice (some ⟨b3, 0, none⟩) C.length C.length] 25 (some 0)) := by rw [eH2]; exact get_last
  have K : Q5 M H1.length b1 b2 b3 A.length C.length vs (nthR A) (nth B) (nth C) H2 := by
    refine ⟨Keep.of_ext (xH.trans x2), o1, o2, o3, hl3, z2, get_ext x2 c1, get_ext x2 c2, get_ext x2 c3, fun a ha => ⟨(S.hA a ha).2.ext (xH.trans x2), fun x hx => ?_⟩, fun a ha => ?_, fun t ht => ?_⟩
    · have hl := (v7 a ha).1
      have := ints_in (S.hA a ha).2 (by omega) x hx
      omega
    · have := v5 a (by omega); constructor <;> omega
    · have := v6 t ht; constructor <;> omega
  unfold l5K l5B l5L rb5
  simp [g6, rN, DC_of d17, joined_le (show fl ≤ f1 by omega), mf]
  rw [← eH2]
  refine hQ _ H2 H1.length b1 b2 b3 ?_ K
  simp [Fr5, g1, g2, g3, g4, g5, g6, g13, g15]
theorem st5B (S : S5 M p r bA oA cA bB oB cB bC oC cC vs A B C kind X xd Y yd R cs) (hv : Valid A B C) (hR : Right A B C kind X xd Y yd R) (hi : i < A.length) (hj : j < A.length) (hk : k < C.length) (hl : l < C.length) (hm : mm ≠ 0 ∧ -1000 ≤ mm ∧ mm ≤ 1000) (hkd : kd < 4) (hfl : fl ≤ M.length) (g : Fr5a p r i j k l kd mm fr)
    (hQn : ∀ fr' M', Fr5a p r i j k l kd mm fr' → Keep M M' → Q .normal fr' ⟨M', fl⟩) (hQe : ∀ fr' M', Fr5a p r i j k l kd mm fr' → Keep M M' → Q (.exit 1) fr' ⟨M', fl⟩) : DW E3 l5B fr ⟨M, fl⟩ Q := by
  rw [l5B_eq, DW_seq]
  refine st5K S hv (by omega) hfl g ?_
  intro fr1 H q b1 b2 b3 g1 K
  simp only [seqK_normal]
  rw [DW_seq, DW_seq, l5J_eq]
  have g15 := g1.2.2.2.2.2.2.2.1
  simp [g15]
  have done : Done5 M p r q b1 b2 b3 A B C fl i j k l kd mm (blockK 2 (seqK E3 l5V Q)) := by
    intro fr2 H' hF F bF cF g2 K2 hs
    rw [blockK_normal]
    simp only [seqK_normal]
    exact st5V S hv hR hfl g2 K2 hs hQn hQe
  have g2 : Fr5 p r q i j k l kd mm (put fr1 101 (.int .i64 kd)) := by
    obtain ⟨q1, q2, q3, q4, q5, q6, q7, q8, q9⟩ := g1
    simp [Fr5, q1, q2, q3, q4, q5, q6, q7, q8, q9]
  rw [l5S_eq, l5S1_eq, l5S2_eq, l5S3_eq]
  obtain ⟨q1, q2, q3, q4, q5, q6, q7, q8, q9⟩ := g2
  obtain ⟨q1', q2', q3', q4', q5', q6', q7', q8', q9'⟩ := g1
  match kd, hkd with
  | 0, _ =>
    simp at q8'
    simp
    refine case0 S hv hi hj hfl ?_ K done
    simp [Fr5, q1', q2', q3', q4', q5', q6', q7', q8', q9']
  | 1, _ =>
    simp at q8'
    simp
    refine case1 S hv hk hl hfl ?_ K done
    simp [Fr5, q1', q2', q3', q4', q5', q6', q7', q8', q9']
  | 2, _ =>
    simp at q8'
    simp
    refine case2 S hv hi hm hfl ?_ K done
    simp [Fr5, q1', q2', q3', q4', q5', q6', q7', q8', q9']
  | 3, _ =>
    simp at q8'
    simp
    by_cases hij : i = j
    · refine case3e (p := p) (r := r) (q := q) (i := i) (j := j) (k := k) (l := l) (kd := 3) (mm := mm) hij ?_ ?_
      · simp [Fr5, q1', q2', q3', q4', q5', q6', q7', q8', q9']
      · intro fr3 g3
        show Q (.exit 1) fr3 ⟨H, fl⟩
        exact hQe fr3 H g3.toA K.keep
    · refine case3 S hv hi hj hij hm hfl ?_ K done
      simp [Fr5, q1', q2', q3', q4', q5', q6', q7', q8', q9']
end Go.Proofs.Ytdbkhecnkhjhpaa
/- The law of equal programs: its code. -/
namespace Go.Proofs.Ytdbkhecnkhjhpaa
open Go Go.Ai
set_option linter.unusedSimpArgs false
set_option linter.unusedVariables false
attribute [local instance] Classical.propDecidable

def l5h : Ai.R := match rb5 with | .seq _ (.seq h _) => h | _ => .skip
def l5s : Ai.R := match rb5 with | .seq _ (.seq _ (.seq s _)) => s | _ => .skip
def l5e : Ai.R := match rb5 with | .seq _ (.seq _ (.seq _ (.seq e _))) => e | _ => .skip
def l5f : Ai.R := match rb5 with | .seq _ (.seq _ (.seq _ (.seq _ (.seq _ f)))) => f | _ => .skip
def l5t : Ai.R := match l5L with | .block _ (.loop (.seq t _)) => t | _ => .skip
def l5n : Ai.R := match l5L with | .block _ (.loop (.seq _ (.seq _ n))) => n | _ => .skip
theorem rb5_eq : rb5 = .seq (.ops false [⟨some 6, none, .box 25 (.tmp 0), 0⟩, ⟨some 12, none, .mv (.const (.bool false)), 0⟩]) (.seq l5h (.seq l5s (.seq l5e (.seq (.seq (.ops false [⟨some 15, none, .mv (.const (.int .i64 0)), 0⟩]) (.block 0 (.loop (.seq l5t (.seq (.block 1 l5B) l5n))))) l5f)))) := rfl
theorem law5 {h : List O} {vA vB vC : Value} {A : List (List Int)} {B C : List Int} {zi zj zk zl zm : Int} (hp : LpAt h (.agg #[vA, vB, vC]) A B C) :
    DR E3 5 [.agg #[vA, vB, vC], .int .i64 zi, .int .i64 zj, .int .i64 zk, .int .i64 zl, .int .i64 zm] ⟨h, h.length⟩ (.ret (.bool true)) ⟨h, h.length⟩ := by
  refine E3_lp.fn (body := rb5) rfl (by decide) ?_
  rw [rb5_eq, DW_seq, DW_ops]
  refine DL_boxed fun h1 p hx hlen hp0 hb => ?_
  simp at hb
  replace hp := hp.ext hx
  have hp1 := hp
  obtain ⟨vA', vB', vC', eq, r0, r1, r2, rN, hA, hB, hC⟩ := boxLp (h := h) (v := .agg #[vA, vB, vC]) hb rfl hp
  simp only [Value.agg.injEq, Array.mk.injEq, List.cons.injEq, and_true] at eq
  obtain ⟨rfl, rfl, rfl⟩ := eq
  have l15 := check15 E3_lp hp
  have hpl := rd_lt r2
  obtain ⟨aA, bA, oA, cA, vs, rfl, hA2, hA3, hA4⟩ := id hA
  obtain ⟨aB, bB, oB, cB, rfl, hB2, hB3, hB4, hB5⟩ := id hB
  obtain ⟨aC, bC, oC, cC, rfl, hC2, hC3, hC4, hC5⟩ := id hC
  simp
  show DW E3 (match rb5 with | .seq _ (.seq h _) => h | _ => .skip) _ _ _
  unfold rb5
  by_cases c1 : Valid A B C
  rotate_left
  · simp [DC_of l15, rN, c1, DC_of (sane12' _)]
  by_cases c2 : zi < 0
  · simp [DC_of l15, rN, c1, eq_true c2, DC_of (sane12' _)]
  by_cases c3 : zj < 0
  · simp [DC_of l15, rN, c1, eq_false c2, eq_true c3, DC_of (sane12' _)]
  by_cases c4 : (A.length : Int) ≤ zi
  · simp [DC_of l15, rN, c1, eq_false c2, eq_false c3, r0, eq_true c4, DC_of (sane12' _)]
  by_cases c5 : (A.length : Int) ≤ zj
  · simp [DC_of l15, rN, c1, eq_false c2, eq_false c3, r0, eq_false c4, eq_true c5, DC_of (sane12' _)]
  by_cases c6 : zk < 0
  · simp [DC_of l15, rN, c1, eq_false c2, eq_false c3, r0, eq_false c4, eq_false c5, eq_true c6, DC_of (sane12' _)]
  by_cases c7 : zl < 0
  · simp [DC_of l15, rN, c1, eq_false c2, eq_false c3, r0, eq_false c4, eq_false c5, eq_false c6, eq_true c7, DC_of (sane12' _)]
  by_cases c8 : (C.length : Int) ≤ zk
  · simp [DC_of l15, rN, c1, eq_false c2, eq_false c3, r0, eq_false c4, eq_false c5, eq_false c6, eq_false c7, r2, eq_true c8, DC_of (sane12' _)]
  by_cases c9 : (C.length : Int) ≤ zl
  · simp [DC_of l15, rN, c1, eq_false c2, eq_false c3, r0, eq_false c4, eq_false c5, eq_false c6, eq_false c7, r2, eq_false c8, eq_true c9, DC_of (sane12' _)]
  by_cases c10 : zm = 0
  · simp [DC_of l15, rN, c1, eq_false c2, eq_false c3, r0, eq_false c4, eq_false c5, eq_false c6, eq_false c7, r2, eq_false c8, eq_false c9, eq_true c10, DC_of (sane12' _)]
  by_cases c11 : 1000 < zm
  · simp [DC_of l15, rN, c1, eq_false c2, eq_false c3, r0, eq_false c4, eq_false c5, eq_false c6, eq_false c7, r2, eq_false c8, eq_false c9, eq_false c10, eq_true c11, DC_of (sane12' _)]
  by_cases c12 : zm < -1000
  · simp [DC_of l15, rN, c1, eq_false c2, eq_false c3, r0, eq_false c4, eq_false c5, eq_false c6, eq_false c7, r2, eq_false c8, eq_false c9, eq_false c10, eq_false c11, eq_true c12, DC_of (sane12' _)]
  obtain ⟨i, rfl⟩ := Int.eq_ofNat_of_zero_le (show 0 ≤ zi by omega)
  obtain ⟨j, rfl⟩ := Int.eq_ofNat_of_zero_le (show 0 ≤ zj by omega)
  obtain ⟨k, rfl⟩ := Int.eq_ofNat_of_zero_le (show 0 ≤ zk by omega)
  obtain ⟨l, rfl⟩ := Int.eq_ofNat_of_zero_le (show 0 ≤ zl by omega)
  have hi : i < A.length := by omega
  have hj : j < A.length := by omega
  have hk : k < C.length := by omega
  have hl : l < C.length := by omega
  have hv := c1
  obtain ⟨v1, v2, v3, v4, v5, v6, v7⟩ := id hv
  obtain rfl := hA2 (by omega)
  obtain rfl := hB2 (by omega)
  obtain rfl := hC2 (by omega)
  rw [v2] at r1 rN hp hp1 l15
  obtain ⟨kind, xd, yd, X, Y, R, w, H', d16, hr, hok, hno, hkp⟩ := solve_at hp
  obtain ⟨M, cs, rfl, hcl, wM, eM, lM, rM, rK, hrM⟩ := put_res hr
  have kM := hkp.ext eM
  have hk1 := hkp.1
  simp only [zeroRes6] at wM
  have mf : min h.length H'.length = h.length := by omega
  simp [DC_of l15, rN, c1, eq_false c2, eq_false c3, r0, eq_false c4, eq_false c5, eq_false c6, eq_false c7, r2, eq_false c8, eq_false c9, eq_false c10, eq_false c11, eq_false c12, DC_of (sane12' _)]
  show DW E3 (match rb5 with | .seq _ (.seq _ (.seq s _)) => s | _ => .skip) _ _ _
  unfold rb5
  simp [rN, DC_of d16, joined_le (show h.length ≤ h1.length by omega), wM, mf, eq_true hcl]
  show DW E3 (match rb5 with | .seq _ (.seq _ (.seq _ (.seq e _))) => e | _ => .skip) _ _ _
  unfold rb5
  by_cases he : errS A B C = 0
  rotate_left
  · simp [he, DC_of (sane12' _)]
  have hR := hok he
  have S : S5 M p H'.length bA oA cA bB oB cB bC oC cC vs A B C kind X xd Y yd R cs :=
    ⟨by omega, kM.rd r0, kM.rd r1, kM.rd r2, kM.rdN rN, kM.lp hp1, fun a ha => ⟨kM.rd (hA3 a ha).1, kM.ints (hA3 a ha).2⟩, fun a ha => kM.rd (hB3 a (by omega)), fun t ht => kM.rd (hC3 t ht), rM, rK, hrM, hcl⟩
  simp [he]
  refine DW_loop (fun kk fr st => ∃ kd, kd + kk = 4 ∧ ∃ M', st = ⟨M', h.length⟩ ∧ Fr5a p H'.length i j k l kd zm fr ∧ Keep M M') ?_ (k := 4) ⟨0, by simp, M, rfl, by simp [Fr5a], Keep.refl _⟩
  rintro kk fr st ⟨kd, hkd, M', rfl, g, km⟩
  have hkm := km.1
  obtain ⟨q1, q2, q3, q4, q5, q6, q7, q8⟩ := g
  by_cases h4 : kd < 4
  · have h4' : (kd : Int) < 4 := by omega
    rw [DW_seq]
    show DW E3 (match l5L with | .block _ (.loop (.seq t _)) => t | _ => .skip) _ _ _
    unfold l5L rb5
    simp [q8, eq_true h4']
    have fin : ∀ fr' M'', Fr5a p H'.length i j k l kd zm fr' → Keep M' M'' → DW E3 l5n fr' ⟨M'', h.length⟩ (roundK (fun kk fr st => ∃ kd, kd + kk = 4 ∧ ∃ M', st = ⟨M', h.length⟩ ∧ Fr5a p H'.length i j k l kd zm fr ∧ Keep M M') kk (blockK 0 (seqK E3 l5f (endK [.tmp 12] ⟨h, h.length⟩ fun o2 st2 => o2 = .ret (.bool true) ∧ st2 = ⟨h, h.length⟩)))) := by
      intro fr' M'' g' k'
      obtain ⟨p1, p2, p3, p4, p5, p6, p7, p8⟩ := g'
      show DW E3 (match l5L with | .block _ (.loop (.seq _ (.seq _ n))) => n | _ => .skip) _ _ _
      unfold l5L rb5
      have ew : IntKind.i64.wrap ((kd : Int) + 1) = ((kd + 1 : Nat) : Int) := by rw [w64_id] <;> omega
      simp [p8]
      refine ⟨kk - 1, by omega, kd + 1, by omega, ?_, km.trans k'⟩
      simp [Fr5a, p1, p2, p3, p4, p5, p6, p7, ew]
    refine st5B (mm := zm) (fl := h.length) (S.keep km) hv hR hi hj hk hl ⟨c10, by omega, by omega⟩ h4 (by omega) ?_ ?_ ?_
    · simp [Fr5a, q1, q2, q3, q4, q5, q6, q7, q8]
    · intro fr' M'' g' k'
      rw [blockK_normal]
      simp only [seqK_normal]
      exact fin fr' M'' g' k'
    · intro fr' M'' g' k'
      rw [blockK_exit, if_pos rfl]
      simp only [seqK_normal]
      exact fin fr' M'' g' k'
  · have h4' : ¬ (kd : Int) < 4 := by omega
    rw [DW_seq]
    show DW E3 (match l5L with | .block _ (.loop (.seq t _)) => t | _ => .skip) _ _ _
    unfold l5L rb5
    simp [q8, eq_false h4']
    show DW E3 (match rb5 with | .seq _ (.seq _ (.seq _ (.seq _ (.seq _ f)))) => f | _ => .skip) _ _ _
    unfold rb5
    have hbk : back ⟨h, h.length⟩ (.ret (.bool true)) ⟨M', h.length⟩ = (.ret (.bool true), ⟨h, h.length⟩) := by
      unfold back
      rw [if_pos (by simp [Out.scalar, scalar, flat1, flat])]
    simp [DC_of (sane12' _), hbk]
end Go.Proofs.Ytdbkhecnkhjhpaa
