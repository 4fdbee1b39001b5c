/- The laws of verification. -/
import Derived.Test.YtdbkhecnkhjhpaaBg
import Derived.Test.YtdbkhecnkhjhpaaLpK
namespace Go.Proofs.Ytdbkhecnkhjhpaa
open Go Go.Ai
set_option linter.unusedSimpArgs false
set_option linter.unusedVariables false
attribute [local instance] Classical.propDecidable

theorem DR_sum {E : Env} {f : FuncId} {s : List Value → St → Option (Out × St)} {args : List Value} {st st' : St} {o : Out} (hS : E.S f = some s) (h : s args st = some (o, st')) : DR E f args st o st' :=
  ⟨0, by simp only [call, callSig, hS]; exact h⟩
theorem E2_lp : LpE E2 := ⟨rfl, fun f h1 h2 _ _ => by simp [E2, h2]⟩
theorem sane12 (st : St) : DR E2 12 [] st (.ret (.bool true)) st := DR_sum (s := saneS) rfl rfl

theorem law3 {h : List O} {v w : Value} {A : List (List Int)} {B C X Y R : List Int} {kind xd yd : Int} (hp : LpAt h v A B C) (hr : ResAt h w kind X xd Y yd R) :
    DR E2 3 [v, w] ⟨h, h.length⟩ (.ret (.bool true)) ⟨h, h.length⟩ := by
  refine E2_lp.fn (body := rb3) rfl (by decide) ?_
  unfold rb3
  rw [DW_seq, DW_ops]
  refine DL_boxed fun h1 p hx1 hlen1 hp1 hb1 => DL_boxed fun h' q hx2 hlen2 hq hb2 => ?_
  simp at hb1 hb2
  replace hp := (hp.ext hx1).ext hx2
  replace hr := (hr.ext hx1).ext hx2
  have hp0 := hp
  have hr0 := hr
  obtain ⟨vA, vB, vC, rfl, r0, r1, r2, rN, hA, hB, hC⟩ := boxLp (h := h) (hb1.ext hx2) rfl hp
  obtain ⟨vX, vY, vR, rfl, s0, s1, s2, s3, s4, s5, sN, hX, hY, hR, k1, k2, k3⟩ := boxRes hb2 rfl hr
  have l10 := value10 E2_lp hp0 hr0
  have l11 := value11 E2_lp hp0 hr0
  have hm : min h.length h'.length = h.length := by omega
  have hx3 : Ext h' (h' ++ [O.cells [.int .i64 (if errV A B C kind X xd Y yd R = 0 then valN C X xd else 0), .int .i64 (if errV A B C kind X xd Y yd R = 0 then valD C X xd else 0), .int .i64 (errV A B C kind X xd Y yd R)] 32 (some 0)]) := Ext.snoc _ _
  have l13 := verify13 E2_lp (hp0.ext hx3) (hr0.ext hx3)
  have l14 := verify14 E2_lp (hp0.ext hx3) (hr0.ext hx3)
  simp [rN, sN, DC_of l10, DC_of l11, DC_of (sane12 _), DC_of l13, DC_of l14, hx3.rdN rN, hx3.rdN sN, -List.length_append, hm]

/-! ### Weak duality -/
theorem sumN_mul_left (c : Int) (f : Nat → Int) (n : Nat) : c * sumN f n = sumN (fun i => c * f i) n := (sumN_mul c f n).symm
theorem dual_swap (A : List (List Int)) (X Y : List Int) (n : Nat) :
    sumN (fun j => dotZ Y (colL A j) A.length * nth X j) n = sumN (fun i => nth Y i * dotZ (nthR A i) X n) A.length := by
  have e1 : ∀ j, dotZ Y (colL A j) A.length * nth X j = sumN (fun i => nth Y i * nth (nthR A i) j * nth X j) A.length := fun j => by
    rw [Int.mul_comm, dotZ, sumN_mul_left]
    refine sumN_congr fun i hi => ?_
    rw [nth_colL hi, Int.mul_comm]
  have e2 : ∀ i, nth Y i * dotZ (nthR A i) X n = sumN (fun j => nth Y i * nth (nthR A i) j * nth X j) n := fun i => by
    rw [dotZ, sumN_mul_left]
    exact sumN_congr fun j _ => by rw [Int.mul_assoc]
  rw [sumN_congr fun j _ => e1 j, sumN_congr (f := fun i => nth Y i * dotZ (nthR A i) X n) fun i _ => e2 i, sumN_swap]
theorem dual_sol {A : List (List Int)} {B C X Y : List Int} {xd : Int} (hs : IsSol A B C X xd) (hB : B.length = A.length) :
    sumN (fun j => dotZ Y (colL A j) A.length * nth X j) C.length = xd * dotZ B Y B.length := by
  rw [dual_swap, dotZ, sumN_mul_left, hB]
  refine sumN_congr fun i hi => ?_
  rw [hs.2.2.2 i hi, Int.mul_left_comm, Int.mul_comm (nth Y i)]
theorem weak {A : List (List Int)} {B C X Y : List Int} {xd yd : Int} (hs : IsSol A B C X xd) (hB : B.length = A.length) (hy : ∀ j, j < C.length → dotZ Y (colL A j) A.length ≤ yd * nth C j) :
    xd * dotZ B Y B.length ≤ yd * dotZ C X C.length := by
  rw [← dual_sol hs hB, dotZ, sumN_mul_left]
  refine sumN_le fun j hj => ?_
  rw [← Int.mul_assoc]
  exact Int.mul_le_mul_of_nonneg_right (hy j hj) (hs.2.2.1 j (by rw [hs.2.1]; exact hj))
theorem emp_no {A : List (List Int)} {B C X X' Y R : List Int} {xd xd' yd : Int} (hs : IsSol A B C X xd) (he : Emp A B C X' xd' Y yd R) (hB : B.length = A.length) : False := by
  obtain ⟨_, _, _, _, _, h1, h2⟩ := he
  have h3 := dual_sol (Y := Y) hs hB
  have h4 : 0 ≤ sumN (fun j => dotZ Y (colL A j) A.length * nth X j) C.length := by
    have := sumN_le (f := fun _ => 0) (g := fun j => dotZ Y (colL A j) A.length * nth X j) (n := C.length) fun j hj => Int.mul_nonneg (h1 j hj) (hs.2.2.1 j (by rw [hs.2.1]; exact hj))
    have z : ∀ n, sumN (fun _ => 0) n = 0 := fun n => by induction n with | zero => rfl | succ n ih => simp [sumN, ih]
    rw [z] at this
    exact this
  rw [h3] at h4
  have h5 : xd * dotZ B Y B.length < 0 := Int.mul_neg_of_pos_of_neg (by have := hs.1; omega) h2
  omega
theorem unb_no {A : List (List Int)} {B C X X' Y Y' R R' : List Int} {xd xd' yd yd' : Int} (ho : Opt A B C X xd Y yd R) (hu : Unb A B C X' xd' Y' yd' R') : False := by
  obtain ⟨_, h1, _, _, hy, _⟩ := ho
  obtain ⟨_, _, _, hR, hP, hA, hC⟩ := hu
  have h3 := dual_swap A R' Y C.length
  have z : ∀ n, sumN (fun _ => 0) n = 0 := fun n => by induction n with | zero => rfl | succ n ih => simp [sumN, ih]
  have h4 : sumN (fun i => nth Y i * dotZ (nthR A i) R' C.length) A.length = 0 := by
    rw [sumN_congr (g := fun _ => 0) fun i hi => by rw [hA i hi, Int.mul_zero], z]
  have h5 : sumN (fun j => dotZ Y (colL A j) A.length * nth R' j) C.length ≤ yd * dotZ C R' C.length := by
    rw [dotZ, sumN_mul_left]
    refine sumN_le fun j hj => ?_
    rw [← Int.mul_assoc]
    exact Int.mul_le_mul_of_nonneg_right (hy j hj) (hP j (by rw [hR]; exact hj))
  have h6 : yd * dotZ C R' C.length < 0 := Int.mul_neg_of_pos_of_neg (by omega) hC
  omega
theorem opt_eq {A : List (List Int)} {B C X X' Y Y' R R' : List Int} {xd xd' yd yd' : Int} (h : Opt A B C X xd Y yd R) (k : Opt A B C X' xd' Y' yd' R') (hB : B.length = A.length) :
    dotZ C X C.length * xd' = dotZ C X' C.length * xd := by
  obtain ⟨a1, a2, _, _, a3, a4⟩ := h
  obtain ⟨b1, b2, _, _, b3, b4⟩ := k
  have x1 := a1.1
  have x2 := b1.1
  have w1 := weak a1 hB b3
  have w2 := weak b1 hB a3
  generalize dotZ C X C.length = P at *
  generalize dotZ C X' C.length = P' at *
  generalize dotZ B Y B.length = Q at *
  generalize dotZ B Y' B.length = Q' at *
  -- P yd = Q xd, P' yd' = Q' xd', xd Q' ≤ yd' P, xd' Q ≤ yd P'
  have u1 : P' * xd ≤ P * xd' := by
    have e1 : xd' * (xd * Q') ≤ xd' * (yd' * P) := Int.mul_le_mul_of_nonneg_left w1 (by omega)
    have e2 : xd' * (xd * Q') = yd' * (P' * xd) := by
      rw [Int.mul_left_comm, Int.mul_comm xd' Q', ← b4, Int.mul_comm xd, Int.mul_comm P' yd', Int.mul_assoc]
    have e3 : xd' * (yd' * P) = yd' * (P * xd') := by rw [Int.mul_left_comm, Int.mul_comm xd' P]
    rw [e2, e3] at e1
    exact Int.le_of_mul_le_mul_left e1 (by omega)
  have u2 : P * xd' ≤ P' * xd := by
    have e1 : xd * (xd' * Q) ≤ xd * (yd * P') := Int.mul_le_mul_of_nonneg_left w2 (by omega)
    have e2 : xd * (xd' * Q) = yd * (P * xd') := by
      rw [Int.mul_left_comm, Int.mul_comm xd Q, ← a4, Int.mul_comm xd', Int.mul_comm P yd, Int.mul_assoc]
    have e3 : xd * (yd * P') = yd * (P' * xd) := by rw [Int.mul_left_comm, Int.mul_comm xd P']
    rw [e2, e3] at e1
    exact Int.le_of_mul_le_mul_left e1 (by omega)
  omega
theorem nat_low {N D N' D' : Nat} (hD : 0 < D) (hD' : 0 < D') (h : N * D' = N' * D) : N / Nat.gcd N D = N' / Nat.gcd N' D' ∧ D / Nat.gcd N D = D' / Nat.gcd N' D' := by
  have g0 : 0 < Nat.gcd N D := Nat.gcd_pos_of_pos_right _ hD
  have g0' : 0 < Nat.gcd N' D' := Nat.gcd_pos_of_pos_right _ hD'
  have e1 : Nat.gcd N D * D' = Nat.gcd N' D' * D := by
    rw [← Nat.gcd_mul_right, ← Nat.gcd_mul_right, h, Nat.mul_comm D D']
  have e2 : Nat.gcd N D * N' = N * Nat.gcd N' D' := by
    rw [← Nat.gcd_mul_right, ← Nat.gcd_mul_left, h, Nat.mul_comm D N']
  obtain ⟨a, ha⟩ := Nat.gcd_dvd_left N D
  obtain ⟨b, hb⟩ := Nat.gcd_dvd_right N D
  obtain ⟨a', ha'⟩ := Nat.gcd_dvd_left N' D'
  obtain ⟨b', hb'⟩ := Nat.gcd_dvd_right N' D'
  generalize Nat.gcd N D = g at *
  generalize Nat.gcd N' D' = g' at *
  subst ha hb ha' hb'
  rw [Nat.mul_div_cancel_left _ g0, Nat.mul_div_cancel_left _ g0', Nat.mul_div_cancel_left _ g0, Nat.mul_div_cancel_left _ g0']
  constructor
  · have : g * g' * a = g * g' * a' := by
      rw [Nat.mul_assoc g g' a', e2, Nat.mul_assoc, Nat.mul_assoc, Nat.mul_comm a g']
    exact Nat.eq_of_mul_eq_mul_left (Nat.mul_pos g0 g0') this
  · have : g * g' * b = g * g' * b' := by
      rw [Nat.mul_assoc g g' b', e1, Nat.mul_comm g g', Nat.mul_assoc]
    exact Nat.eq_of_mul_eq_mul_left (Nat.mul_pos g0 g0') this
theorem tdiv_pos_nat (n g : Nat) : ((n : Int)).tdiv g = ((n / g : Nat) : Int) := rfl
theorem tdiv_abs {n : Int} (h : 0 ≤ n) (g : Nat) : n.tdiv g = ((n.natAbs / g : Nat) : Int) := by
  obtain ⟨k, rfl⟩ := Int.eq_ofNat_of_zero_le h
  exact tdiv_pos_nat k g
theorem tdiv_abs' {n : Int} (h : n ≤ 0) (g : Nat) : n.tdiv g = -((n.natAbs / g : Nat) : Int) := by
  have e := tdiv_abs (n := -n) (by omega) g
  rw [Int.neg_tdiv, Int.natAbs_neg] at e
  omega
/-- Fractions that are equal have the same lowest terms. -/
theorem low_eq {n d n' d' : Int} (hd : 1 ≤ d) (hd' : 1 ≤ d') (h : n * d' = n' * d) :
    n.tdiv (Nat.gcd n.natAbs d.natAbs) = n'.tdiv (Nat.gcd n'.natAbs d'.natAbs) ∧ d.tdiv (Nat.gcd n.natAbs d.natAbs) = d'.tdiv (Nat.gcd n'.natAbs d'.natAbs) := by
  have hn : n.natAbs * d'.natAbs = n'.natAbs * d.natAbs := by rw [← Int.natAbs_mul, h, Int.natAbs_mul]
  obtain ⟨q1, q2⟩ := nat_low (N := n.natAbs) (D := d.natAbs) (N' := n'.natAbs) (D' := d'.natAbs) (by omega) (by omega) hn
  refine ⟨?_, by rw [tdiv_abs (by omega), tdiv_abs (by omega), q2]⟩
  by_cases h0 : 0 ≤ n
  · have h1 : 0 ≤ n' := by
      refine Classical.byContradiction fun hc => ?_
      have u1 : 0 ≤ n * d' := Int.mul_nonneg h0 (by omega)
      have u2 : n' * d < 0 := Int.mul_neg_of_neg_of_pos (by omega) (by omega)
      omega
    rw [tdiv_abs h0, tdiv_abs h1, q1]
  · have h1 : n' ≤ 0 := by
      refine Classical.byContradiction fun hc => ?_
      have u1 : n * d' < 0 := Int.mul_neg_of_neg_of_pos (by omega) (by omega)
      have u2 : 0 < n' * d := Int.mul_pos (by omega) (by omega)
      omega
    rw [tdiv_abs' (by omega), tdiv_abs' h1, q1]

/-- Two right results are of one kind and value. -/
theorem never {A : List (List Int)} {B C X Y R X' Y' R' : List Int} {k xd yd k' xd' yd' : Int} (hv : Valid A B C) (h : Right A B C k X xd Y yd R) (h' : Right A B C k' X' xd' Y' yd' R') :
    k = k' ∧ (k = 1 → valN C X xd = valN C X' xd' ∧ valD C X xd = valD C X' xd') := by
  have hB := hv.2.1
  rcases h.2 with ⟨rfl, h1⟩ | ⟨rfl, h1⟩ | ⟨rfl, h1⟩ <;> rcases h'.2 with ⟨rfl, h2⟩ | ⟨rfl, h2⟩ | ⟨rfl, h2⟩
  · exact ⟨rfl, fun _ => low_eq h1.1.1 h2.1.1 (opt_eq h1 h2 hB)⟩
  · exact (emp_no h1.1 h2 hB).elim
  · exact (unb_no h1 h2).elim
  · exact (emp_no h2.1 h1 hB).elim
  · exact ⟨rfl, fun h => by omega⟩
  · exact (emp_no h2.1 h1 hB).elim
  · exact (unb_no h2 h1).elim
  · exact (emp_no h1.1 h2 hB).elim
  · exact ⟨rfl, fun h => by omega⟩

theorem law4 {h : List O} {v w1 w2 : Value} {A : List (List Int)} {B C X Y R X' Y' R' : List Int} {k xd yd k' xd' yd' : Int} (hp : LpAt h v A B C) (hr : ResAt h w1 k X xd Y yd R) (hs : ResAt h w2 k' X' xd' Y' yd' R') :
    DR E2 4 [v, w1, w2] ⟨h, h.length⟩ (.ret (.bool true)) ⟨h, h.length⟩ := by
  refine E2_lp.fn (body := rb4) rfl (by decide) ?_
  unfold rb4
  rw [DW_seq, DW_ops]
  refine DL_boxed fun h1 p hx1 hlen1 hp1 hb1 => DL_boxed fun h2 q hx2 hlen2 hq hb2 => DL_boxed fun h' q' hx3 hlen3 hq' hb3 => ?_
  simp at hb1 hb2 hb3
  replace hp := ((hp.ext hx1).ext hx2).ext hx3
  replace hr := ((hr.ext hx1).ext hx2).ext hx3
  replace hs := ((hs.ext hx1).ext hx2).ext hx3
  have hp0 := hp
  have hr0 := hr
  have hs0 := hs
  obtain ⟨vA, vB, vC, rfl, r0, r1, r2, rN, hA, hB, hC⟩ := boxLp (h := h) ((hb1.ext hx2).ext hx3) rfl hp
  obtain ⟨vX, vY, vR, rfl, s0, s1, s2, s3, s4, s5, sN, hX, hY, hR, k1, k2, k3⟩ := boxRes (hb2.ext hx3) rfl hr
  obtain ⟨uX, uY, uR, rfl, t0, t1, t2, t3, t4, t5, tN, hX', hY', hR', m1, m2, m3⟩ := boxRes hb3 rfl hs
  have lr := verify13 E2_lp hp0 hr0
  have ls := verify13 E2_lp hp0 hs0
  have vr := value10 E2_lp hp0 hr0
  have vs := value10 E2_lp hp0 hs0
  by_cases c0 : ¬ Valid A B C
  · simp [rN, sN, tN, DC_of lr, c0, DC_of (sane12 _)]
  replace c0 := Classical.not_not.1 c0
  by_cases c1 : ¬ Right A B C k X xd Y yd R
  · simp [rN, sN, tN, DC_of lr, c0, c1, DC_of (sane12 _)]
  replace c1 := Classical.not_not.1 c1
  by_cases c2 : ¬ Right A B C k' X' xd' Y' yd' R'
  · simp [rN, sN, tN, DC_of lr, DC_of ls, c0, c1, c2, DC_of (sane12 _)]
  replace c2 := Classical.not_not.1 c2
  obtain ⟨rfl, hval⟩ := never c0 c1 c2
  have e1 : errV A B C k X xd Y yd R = if k = 1 then 0 else 5 := by simp [errV, c0, c1]
  have e2 : errV A B C k X' xd' Y' yd' R' = if k = 1 then 0 else 5 := by simp [errV, c0, c2]
  by_cases c3 : k = 1
  · obtain ⟨v1, v2⟩ := hval c3
    replace c3 := eq_true c3
    simp only [c3, if_true] at e1 e2
    simp [rN, sN, tN, s0, t0, DC_of lr, DC_of ls, c0, c1, c2, DC_of (sane12 _), DC_of vr, DC_of vs, e1, e2, v1, v2]
  · simp only [c3, if_false] at e1 e2
    simp [rN, sN, tN, s0, t0, DC_of lr, DC_of ls, c0, c1, c2, DC_of (sane12 _), DC_of vr, DC_of vs, e1, e2]
end Go.Proofs.Ytdbkhecnkhjhpaa
