/- Lowest terms. -/
import Derived.Test.YtdbkhecnkhjhpaaLp6
namespace Go.Proofs.Ytdbkhecnkhjhpaa
open Go Go.Ai
set_option linter.unusedSimpArgs false
set_option linter.unusedVariables false
attribute [local instance] Classical.propDecidable
variable {E : Env} (hE : LpE E)

theorem tmod_nat (a b : Nat) : (a : Int).tmod b = ((a % b : Nat) : Int) := rfl
theorem gcd_step (a b : Nat) (hb : b ≠ 0) : Nat.gcd b (a % b) = Nat.gcd a b := by
  rw [Nat.gcd_comm b, ← Nat.gcd_rec, Nat.gcd_comm]

/-- The greatest common divisor of the first numbers. -/
def gN (xs : List Int) : Nat → Nat
  | 0 => 0
  | n + 1 => Nat.gcd (gN xs n) (nth xs n).natAbs
theorem gN_dvd {xs : List Int} {n i : Nat} (hi : i < n) : (gN xs n : Int) ∣ nth xs i := by
  induction n with
  | zero => omega
  | succ n ih =>
    have h1 : (gN xs (n + 1) : Int) ∣ gN xs n := Int.natCast_dvd_natCast.2 (Nat.gcd_dvd_left _ _)
    by_cases h : i < n
    · exact Int.dvd_trans h1 (ih h)
    · have : i = n := by omega
      subst this
      exact Int.dvd_natAbs.1 (Int.natCast_dvd_natCast.2 (Nat.gcd_dvd_right _ _))
def divL (xs : List Int) (g : Int) (i : Nat) : List Int := (xs.take i).map (fun x => x.tdiv g) ++ xs.drop i
theorem divL_zero (xs : List Int) (g : Int) : divL xs g 0 = xs := by simp [divL]
theorem divL_all (xs : List Int) (g : Int) : divL xs g xs.length = xs.map fun x => x.tdiv g := by simp [divL]
theorem divL_length (xs : List Int) (g : Int) (i : Nat) : (divL xs g i).length = xs.length := by simp [divL]; omega
theorem divL_get {xs : List Int} {g : Int} {i : Nat} (hi : i < xs.length) : (divL xs g i)[i]? = some (nth xs i) := by
  simp only [divL]
  rw [List.getElem?_append_right (by simp; omega)]
  simp [nth, hi, Nat.min_eq_left (Nat.le_of_lt hi)]
theorem divL_set {xs : List Int} {g : Int} {i : Nat} (hi : i < xs.length) : (divL xs g i).set i ((nth xs i).tdiv g) = divL xs g (i + 1) := by
  simp only [divL]
  rw [List.set_append_right _ _ (by simp; omega)]
  have e : xs.drop i = nth xs i :: xs.drop (i + 1) := by rw [List.drop_eq_getElem_cons hi, nth_eq hi]
  rw [e, List.take_add_one, List.map_append]
  simp only [List.length_map, List.length_take, Nat.min_eq_left (Nat.le_of_lt hi), Nat.sub_self, List.set_cons_zero, List.getElem?_eq_getElem hi, Option.toList_some, List.map_cons, List.map_nil, List.append_assoc, List.cons_append, List.nil_append, nth_eq hi]
/-- In lowest terms. -/
def lowL (xs : List Int) : List Int := if 1 < gN xs xs.length then xs.map fun x => x.tdiv (gN xs xs.length) else xs

theorem rd_set_same {h : List O} {b : Nat} (hb : b < h.length) (c : List Value) (el : TypeId) (own : Option Nat) (i : Nat) : rd (h.set b (.cells c el own)) b i = c[i]? := by
  simp [rd, hb]
theorem wrN_set_same {h : List O} {b : Nat} (hb : b < h.length) (c : List Value) (el : TypeId) (s i : Nat) (vs : List Value) (h1 : i + vs.length ≤ c.length) (h2 : vs.all one1 = true) :
    wrN (h.set b (.cells c el (some s))) b i vs = some (h.set b (.cells (setL c i vs) el (some s))) := by
  simp [wrN, hb, h1]
  simpa using h2

include hE
theorem gcd31 {h : List O} {a b : Int} (ha : -4611686018427387904 ≤ a ∧ a ≤ 4611686018427387904) (hb : 0 ≤ b) :
    DR E 31 [.int .i64 a, .int .i64 b] ⟨h, h.length⟩ (.ret (.int .i64 (Nat.gcd a.natAbs b.natAbs : Nat))) ⟨h, h.length⟩ := by
  refine hE.fn (body := rb31) rfl (by decide) ?_
  unfold rb31
  have fin : ∀ fr, get fr 0 = .int .i64 (a.natAbs : Int) → get fr 1 = .int .i64 b → ∀ (r : R) (Q : Post), (∀ fr, get fr 0 = .int .i64 (Nat.gcd a.natAbs b.natAbs : Nat) → Q (.exit 0) fr ⟨h, h.length⟩) →
      DW E (.loop (.seq (.seq (.ops false [⟨(.some 10), .none, (.mv (.tmp 1)), 0⟩, ⟨(.some 11), .none, (.bin .neq (.tmp 10) (.const (.int .i64 0))), 0⟩]) (.cond (.tmp 11) .skip (.exit 0))) (.block 1 (.seq (.ops false [⟨(.some 12), .none, (.mv (.tmp 0)), 0⟩, ⟨(.some 13), .none, (.mv (.tmp 1)), 0⟩, ⟨(.some 14), .none, (.bin .rem (.tmp 12) (.tmp 13)), 0⟩, ⟨(.some 5), .none, (.mv (.tmp 14)), 0⟩]) (.seq (.ops false [⟨(.some 15), .none, (.mv (.tmp 1)), 0⟩, ⟨(.some 0), .none, (.mv (.tmp 15)), 0⟩]) (.ops false [⟨(.some 16), .none, (.mv (.tmp 5)), 0⟩, ⟨(.some 1), .none, (.mv (.tmp 16)), 0⟩])))))) fr ⟨h, h.length⟩ Q := by
    intro fr g0 g1 r Q hQ
    refine DW_loop (fun k fr st => ∃ x y : Nat, k = y ∧ st = ⟨h, h.length⟩ ∧ get fr 0 = .int .i64 x ∧ get fr 1 = .int .i64 y ∧ Nat.gcd x y = Nat.gcd a.natAbs b.natAbs) ?_ (k := b.natAbs) ⟨a.natAbs, b.natAbs, rfl, rfl, g0, by rw [g1, show ((b.natAbs : Nat) : Int) = b by omega], rfl⟩
    rintro k fr st ⟨x, y, rfl, rfl, g0, g1, hg⟩
    by_cases c : k = 0
    · subst c
      simp [g0, g1]
      refine hQ _ ?_
      simp at hg
      simp [g0, hg]
    · simp [g0, g1, c, binV_rem (show (k : Int) ≠ 0 by omega), tmod_nat]
      exact ⟨x % k, Nat.mod_lt _ (by omega), by omega, by rw [gcd_step _ _ c]; exact hg⟩
  by_cases c : a < 0
  · have e : IntKind.i64.wrap (-a) = (a.natAbs : Int) := by rw [w64_id] <;> omega
    simp [c, e]
    refine fin _ (by simp) (by simp) .skip _ fun fr g0 => ?_
    simp [g0]
  · have e : a = (a.natAbs : Int) := by omega
    simp [c]
    refine fin _ (by simp; exact e) (by simp) .skip _ fun fr g0 => ?_
    simp [g0]

omit hE in
theorem set_same {h : List O} {b : Nat} {o : O} (hb : h[b]? = some o) : h.set b o = h := by
  apply List.ext_getElem?
  intro i
  rw [List.getElem?_set]
  by_cases h1 : b = i
  · subst h1
    have := (List.getElem?_eq_some_iff.1 hb).1
    simp [this]
    rw [List.getElem?_eq_getElem this] at hb
    exact (Option.some.inj hb).symm
  · simp [h1]
theorem lowest29 {H : List O} {bL oL cL b n c s : Nat} {el : TypeId} {xs : List Int} (hL : rd H bL oL = some (.slice (some ⟨b, 0, none⟩) xs.length c)) (hb : H[b]? = some (.cells (xs.map (.int .i64)) el (some s))) (hne : bL ≠ b) (hlen : xs.length < 1000000)
    (hx : ∀ i, -4611686018427387904 ≤ nth xs i ∧ nth xs i ≤ 4611686018427387904) :
    DC E 29 [.slice (some ⟨bL, oL, none⟩) 1 cL] ⟨H, H.length⟩ fun o st' => o = .ret (.tuple #[]) ∧ ∃ f, st' = ⟨H.set b (.cells ((lowL xs).map (.int .i64)) el (some s)), f⟩ ∧ b ≤ f := by
  refine hE.fnC (body := rb29) rfl (by decide) ?_
  unfold rb29
  have hbl : b < H.length := (List.getElem?_eq_some_iff.1 hb).1
  have rx : ∀ i, i < xs.length → rd H b i = some (.int .i64 (nth xs i)) := fun i hi => by simp [rd, hb, hi, nth]
  simp
  rw [DW_loop_unfold]
  simp [hL]
  refine DW_loop (fun k fr st => ∃ i : Nat, i + k = xs.length ∧ st = ⟨H, H.length⟩ ∧ get fr 0 = .slice (some ⟨bL, oL, none⟩) 1 cL ∧ get fr 13 = .int .i64 1 ∧ get fr 14 = .int .i64 0 ∧ get fr 18 = .slice (some ⟨b, 0, none⟩) xs.length c ∧ get fr 19 = .int .i64 xs.length ∧ get fr 20 = .int .i64 i ∧ get fr 2 = .int .i64 (gN xs i)) ?_ (k := xs.length) ⟨0, by simp [gN]⟩
  rintro k fr st ⟨i, hi, rfl, g0, g13, g14, g18, g19, g20, g2⟩
  by_cases hlt : i < xs.length
  · have hab := abs46 hE (h := H) (x := nth xs i) (by have := hx i; omega)
    simp [g0, g13, g14, g18, g19, g20, g2, hlt, rx i hlt, DC_of hab]
    refine DW_loop (fun k' fr st => ∃ x y : Nat, k' = y ∧ st = ⟨H, H.length⟩ ∧ get fr 0 = .slice (some ⟨bL, oL, none⟩) 1 cL ∧ get fr 13 = .int .i64 1 ∧ get fr 14 = .int .i64 0 ∧ get fr 18 = .slice (some ⟨b, 0, none⟩) xs.length c ∧ get fr 19 = .int .i64 xs.length ∧ get fr 20 = .int .i64 i ∧ get fr 7 = .int .i64 x ∧ get fr 8 = .int .i64 y ∧ Nat.gcd x y = gN xs (i + 1)) ?_ (k := (nth xs i).natAbs) ⟨gN xs i, (nth xs i).natAbs, rfl, by simp [gN, g0, g13, g14, g18, g19, g20, g2]⟩
    rintro k' fr st ⟨x, y, rfl, rfl, g0, g13, g14, g18, g19, g20, g7, g8, hg⟩
    by_cases c0 : k' = 0
    · subst c0
      simp [g0, g13, g14, g18, g19, g20, g7, g8]
      simp at hg
      exact ⟨k - 1, by omega, i + 1, by omega, by rw [w64_id] <;> omega, by rw [hg]⟩
    · simp [g0, g13, g14, g18, g19, g20, g7, g8, c0, binV_rem (show (k' : Int) ≠ 0 by omega), tmod_nat]
      exact ⟨x % k', Nat.mod_lt _ (by omega), by omega, by rw [gcd_step _ _ c0]; exact hg⟩
  · have : i = xs.length := by omega
    subst this
    simp [g0, g13, g14, g18, g19, g20, g2, w64_id]
    rw [DW_loop_unfold]
    simp [g0, g13, g2, w64_id]
    rw [DW_loop_unfold]
    simp [g0, g13, g2, w64_id, hL]
    generalize hG : gN xs xs.length = G at *
    by_cases hG1 : 1 < G
    · have hlow : lowL xs = divL xs G xs.length := by rw [divL_all]; simp [lowL, hG, hG1]
      have hpos : 0 < xs.length := by
        rcases Nat.eq_zero_or_pos xs.length with h0 | h0
        · rw [h0] at hG; simp [gN] at hG; omega
        · exact h0
      refine DW_loop (fun k fr st => ∃ i : Nat, i + k = xs.length ∧ st = ⟨H.set b (.cells ((divL xs G i).map (.int .i64)) el (some s)), if i = 0 then H.length else b⟩ ∧ get fr 37 = .int .i64 1 ∧ get fr 38 = .int .i64 0 ∧ get fr 10 = .slice (some ⟨b, 0, none⟩) xs.length c ∧ get fr 43 = .int .i64 xs.length ∧ get fr 44 = .int .i64 i ∧ get fr 2 = .int .i64 G) ?_ (k := xs.length) ⟨0, by simp [divL_zero, set_same hb, g2]⟩
      rintro k fr st ⟨i, hi, rfl, g37, g38, g10, g43, g44, g2⟩
      by_cases hlt : i < xs.length
      · have h1 := rd_set_same hbl ((divL xs G i).map (.int .i64)) el (some s) i
        simp only [List.getElem?_map, divL_get hlt, Option.map_some] at h1
        have h2 := wrN_set_same hbl ((divL xs G i).map (.int .i64)) el s i [.int .i64 ((nth xs i).tdiv G)] (by simp [divL_length]; omega) rfl
        have h3 : setL ((divL xs G i).map (Value.int .i64)) i [.int .i64 ((nth xs i).tdiv G)] = (divL xs G (i + 1)).map (.int .i64) := by
          simp only [setL_cons, setL_nil]
          rw [← divL_set hlt, List.map_set]
        rw [h3] at h2
        have tc := tdiv_cases (nth xs i) G
        have hxi := hx i
        have d1 : (nth xs i) / (G : Int) ≤ 4611686018427387904 ∨ nth xs i < 0 := by
          by_cases h0 : nth xs i < 0
          · exact .inr h0
          · left
            have := Int.ediv_le_self (b := (G : Int)) (a := nth xs i) (by omega)
            omega
        have d2 : (-nth xs i) / (G : Int) ≤ 4611686018427387904 ∨ 0 ≤ nth xs i := by
          by_cases h0 : 0 ≤ nth xs i
          · exact .inr h0
          · left
            have := Int.ediv_le_self (b := (G : Int)) (a := -nth xs i) (by omega)
            omega
        have d3 : 0 ≤ (nth xs i) / (G : Int) ∨ nth xs i < 0 := by
          by_cases h0 : nth xs i < 0
          · exact .inr h0
          · exact .inl (Int.ediv_nonneg (by omega) (by omega))
        have d4 : 0 ≤ (-nth xs i) / (G : Int) ∨ 0 ≤ nth xs i := by
          by_cases h0 : 0 ≤ nth xs i
          · exact .inr h0
          · exact .inl (Int.ediv_nonneg (by omega) (by omega))
        have w1 : IntKind.i64.wrap ((nth xs i).tdiv G) = (nth xs i).tdiv G := w64_id (by omega) (by omega)
        simp [g37, g38, g10, g43, g44, g2, hlt, h1, h2, hG1, show (1 : Int) < G by omega, binV_quo (show (G : Int) ≠ 0 by omega), w1]
        refine ⟨k - 1, by omega, i + 1, by omega, ⟨rfl, ?_⟩, by rw [w64_id] <;> omega⟩
        split <;> simp <;> omega
      · have : i = xs.length := by omega
        subst this
        simp [g37, g38, g10, g43, g44, g2, w64_id]
        rw [DW_loop_unfold]
        simp [g37, g38, g10, g43, g44, g2, w64_id]
        rw [show (if xs = [] then H.length else b) = b from if_neg (fun h0 => by rw [h0] at hpos; simp at hpos)]
        have hbk : back ⟨H, H.length⟩ (.ret (.tuple #[])) ⟨H.set b (.cells ((divL xs G xs.length).map (.int .i64)) el (some s)), b⟩ = (.ret (.tuple #[]), ⟨H.set b (.cells ((divL xs G xs.length).map (.int .i64)) el (some s)), b⟩) := by
          unfold back
          rw [if_neg]
          intro hh
          rw [Bool.and_eq_true, decide_eq_true_eq] at hh
          have : H.length ≤ b := hh.2
          omega
        rw [hbk, pairQ_mk, hlow]
        exact ⟨rfl, b, rfl, Nat.le_refl _⟩
    · have hlow : lowL xs = xs := by simp [lowL, hG, hG1]
      refine DW_loop (fun k fr st => ∃ i : Nat, i + k = xs.length ∧ st = ⟨H, H.length⟩ ∧ get fr 37 = .int .i64 1 ∧ get fr 38 = .int .i64 0 ∧ get fr 43 = .int .i64 xs.length ∧ get fr 44 = .int .i64 i ∧ get fr 2 = .int .i64 G) ?_ (k := xs.length) ⟨0, by simp [g2]⟩
      rintro k fr st ⟨i, hi, rfl, g37, g38, g43, g44, g2⟩
      by_cases hlt : i < xs.length
      · simp [g37, g38, g43, g44, g2, hlt, show ¬ (1 : Int) < G by omega]
        exact ⟨k - 1, by omega, i + 1, by omega, by rw [w64_id] <;> omega⟩
      · have : i = xs.length := by omega
        subst this
        simp [g37, g38, g43, g44, g2, w64_id]
        rw [DW_loop_unfold]
        simp [g37, g38, g43, g44, g2, w64_id]
        rw [back_scalar rfl (Nat.le_refl _), pairQ_mk, hlow, set_same hb]
        exact ⟨rfl, _, rfl, Nat.le_of_lt hbl⟩

/-! ### Value -/
def valN (C X : List Int) (xd : Int) : Int := (dotZ C X C.length).tdiv (Nat.gcd (dotZ C X C.length).natAbs xd.natAbs)
def valD (C X : List Int) (xd : Int) : Int := xd.tdiv (Nat.gcd (dotZ C X C.length).natAbs xd.natAbs)
noncomputable def errV (A : List (List Int)) (B C : List Int) (kind : Int) (X : List Int) (xd : Int) (Y : List Int) (yd : Int) (R : List Int) : Int :=
  if Valid A B C then if Right A B C kind X xd Y yd R then if kind = 1 then 0 else 5 else 5 else 120

omit hE in
theorem lowL_two (d x : Int) (hx : 1 ≤ x) : lowL [d, x] = [d.tdiv (Nat.gcd d.natAbs x.natAbs), x.tdiv (Nat.gcd d.natAbs x.natAbs)] := by
  have e : gN [d, x] 2 = Nat.gcd d.natAbs x.natAbs := by simp [gN, nth]
  have e1 : 0 < Nat.gcd d.natAbs x.natAbs := Nat.gcd_pos_of_pos_right _ (by omega)
  unfold lowL
  simp only [List.length_cons, List.length_nil, Nat.zero_add, Nat.reduceAdd, e]
  split
  · rfl
  · rw [show Nat.gcd d.natAbs x.natAbs = 1 by omega]
    simp
theorem value10 {h : List O} {v w : Value} {A : List (List Int)} {B C X Y R : List Int} {kind xd yd : Int} (hp : LpAt h v A B C) (hr : ResAt h w kind X xd Y yd R) :
    DR E 10 [v, w] ⟨h, h.length⟩ (.ret (.tuple #[.int .i64 (if errV A B C kind X xd Y yd R = 0 then valN C X xd else 0), .int .i64 (if errV A B C kind X xd Y yd R = 0 then valD C X xd else 0), .int .i64 (errV A B C kind X xd Y yd R)])) ⟨h, h.length⟩ := by
  refine hE.fn (body := rb10) rfl (by decide) ?_
  unfold rb10
  rw [DW_seq, DW_ops]
  refine DL_boxed fun h1 p hx1 hlen1 hp1 hb1 => DL_boxed fun h' q hx2 hlen2 hq hb2 => ?_
  simp at hb1 hb2
  replace hp := (hp.ext hx1).ext hx2
  replace hr := (hr.ext hx1).ext hx2
  have hp0 := hp
  have hr0 := hr
  obtain ⟨vA, vB, vC, rfl, r0, r1, r2, rN, hA, hB, hC⟩ := boxLp (h := h) (hb1.ext hx2) rfl hp
  obtain ⟨vX, vY, vR, rfl, s0, s1, s2, s3, s4, s5, sN, hX, hY, hR, k1, k2, k3⟩ := boxRes hb2 rfl hr
  have l13 := verify13 hE hp0 hr0
  have bt : ∀ (H : List O) (a b c : Int), back ⟨h, h.length⟩ (.ret (.tuple #[.int .i64 a, .int .i64 b, .int .i64 c])) ⟨H, h.length⟩ = (.ret (.tuple #[.int .i64 a, .int .i64 b, .int .i64 c]), ⟨h, h.length⟩) := fun H a b c => back_scalar (by simp [Out.scalar, scalar, flat1, flat]) (Nat.le_refl _)
  by_cases c0 : ¬ Valid A B C
  · have he : errV A B C kind X xd Y yd R = 120 := by simp [errV, c0]
    simp [rN, sN, DC_of l13, c0, bt, he]
  replace c0 := Classical.not_not.1 c0
  by_cases c1 : ¬ Right A B C kind X xd Y yd R
  · have he : errV A B C kind X xd Y yd R = 5 := by simp [errV, c0, c1]
    simp [rN, sN, DC_of l13, c0, c1, bt, he]
  replace c1 := Classical.not_not.1 c1
  by_cases c2 : ¬ kind = 1
  · have he : errV A B C kind X xd Y yd R = 5 := by simp [errV, c0, c1, c2]
    simp [rN, sN, s0, DC_of l13, c0, c1, c2, bt, he]
  replace c2 := Classical.not_not.1 c2
  subst c2
  have he : errV A B C 1 X xd Y yd R = 0 := by simp [errV, c0, c1]
  have ho : Opt A B C X xd Y yd R := by
    rcases c1.2 with ⟨_, h⟩ | ⟨h, _⟩ | ⟨h, _⟩
    · exact h
    · omega
    · omega
  have hXl := ho.1.2.1
  have hxd := ho.1.1
  have hw := c1.1.1
  have hsm := c1.1.2.2.2.1
  have ld := dot28 hE hC hX (by omega)
  have t1 := dot_small (n := C.length) c0.2.2.2.2.2.1 hw c0.2.2.2.1
  rw [show IntKind.i64.wrap (dotZ C X C.length) = dotZ C X C.length from w64_id (by omega) (by omega)] at ld
  simp [rN, sN, s0, s1, s2, r2, DC_of l13, c0, c1, DC_of ld, -List.length_append, -List.append_assoc, show Nat.testBit 127 4 = true from rfl]
  have lw := lowest29 hE (H := h' ++ [.cells [.int .i64 (dotZ C X C.length), .int .i64 xd] 3 (some 0)] ++ [.cells [.slice (some ⟨h'.length, 0, none⟩) 2 2] 23 (some 0)]) (bL := h'.length + 1) (oL := 0) (cL := 1) (b := h'.length) (n := 2) (c := 2) (s := 0) (el := 3) (xs := [dotZ C X C.length, xd]) (by simp [rd]) (by simp) (by omega) (by simp) (fun i => by
    match i with
    | 0 => simp [nth]; omega
    | 1 => simp [nth]; omega
    | n + 2 => simp [nth])
  rw [show (h' ++ [O.cells [.int .i64 (dotZ C X C.length), .int .i64 xd] 3 (some 0)]).length = h'.length + 1 by simp]
  refine lw.imp ?_
  rintro o st' ⟨rfl, f, rfl, hf⟩
  have hj : ∀ (H H' : List O) (f0 f1 : Nat), f0 ≤ f1 → joined ⟨H, f0⟩ ⟨H', f1⟩ = ⟨H', f0⟩ := fun H H' f0 f1 h01 => by
    simp only [joined]
    split
    · rw [Nat.min_eq_left h01]
    · rfl
  have hle : h.length ≤ f := by omega
  simp [hj _ _ _ _ hle, lowL_two _ _ hxd, rd, List.getElem_append_right]
  rw [bt, pairQ_mk]
  simp [he, valN, valD]

theorem value11 {h : List O} {v w : Value} {A : List (List Int)} {B C X Y R : List Int} {kind xd yd : Int} (hp : LpAt h v A B C) (hr : ResAt h w kind X xd Y yd R) :
    DR E 11 [v, w] ⟨h, h.length⟩ (.ret (.agg #[.int .i64 (if errV A B C kind X xd Y yd R = 0 then valN C X xd else 0), .int .i64 (if errV A B C kind X xd Y yd R = 0 then valD C X xd else 0), .int .i64 (errV A B C kind X xd Y yd R)])) ⟨h, h.length⟩ := by
  refine hE.fn (body := rb11) rfl (by decide) ?_
  unfold rb11
  rw [DW_seq, DW_ops]
  refine DL_boxed fun h1 p hx1 hlen1 hp1 hb1 => DL_boxed fun h' q hx2 hlen2 hq hb2 => ?_
  simp at hb1 hb2
  replace hp := (hp.ext hx1).ext hx2
  replace hr := (hr.ext hx1).ext hx2
  have hx3 : Ext h' (h' ++ [.cells [.int .i64 0, .int .i64 0, .int .i64 0] 32 (some 0)]) := Ext.snoc _ _
  replace hp := hp.ext hx3
  replace hr := hr.ext hx3
  have hp0 := hp
  have hr0 := hr
  obtain ⟨vA, vB, vC, rfl, r0, r1, r2, rN, hA, hB, hC⟩ := boxLp (h := h) ((hb1.ext hx2).ext hx3) rfl hp
  obtain ⟨vX, vY, vR, rfl, s0, s1, s2, s3, s4, s5, sN, hX, hY, hR, k1, k2, k3⟩ := boxRes (hb2.ext hx3) rfl hr
  have l14 := verify14 hE hp0 hr0
  have bt : ∀ (H : List O) (a b c : Int), back ⟨h, h.length⟩ (.ret (.agg #[.int .i64 a, .int .i64 b, .int .i64 c])) ⟨H, h.length⟩ = (.ret (.agg #[.int .i64 a, .int .i64 b, .int .i64 c]), ⟨h, h.length⟩) := fun H a b c => back_scalar (by simp [Out.scalar, scalar, flat1, flat]) (Nat.le_refl _)
  have hm : min h.length h'.length = h.length := by omega
  by_cases c0 : ¬ Valid A B C
  · have he : errV A B C kind X xd Y yd R = 120 := by simp [errV, c0]
    simp [rN, sN, DC_of l14, c0, bt, he, hm, -List.length_append]
  replace c0 := Classical.not_not.1 c0
  by_cases c1 : ¬ Right A B C kind X xd Y yd R
  · have he : errV A B C kind X xd Y yd R = 5 := by simp [errV, c0, c1]
    simp [rN, sN, DC_of l14, c0, c1, bt, he, hm, -List.length_append]
  replace c1 := Classical.not_not.1 c1
  by_cases c2 : ¬ kind = 1
  · have he : errV A B C kind X xd Y yd R = 5 := by simp [errV, c0, c1, c2]
    simp [rN, sN, s0, DC_of l14, c0, c1, c2, bt, he, hm, -List.length_append]
  replace c2 := Classical.not_not.1 c2
  subst c2
  have he : errV A B C 1 X xd Y yd R = 0 := by simp [errV, c0, c1]
  have ho : Opt A B C X xd Y yd R := by
    rcases c1.2 with ⟨_, h⟩ | ⟨h, _⟩ | ⟨h, _⟩
    · exact h
    · omega
    · omega
  have hXl := ho.1.2.1
  have hxd := ho.1.1
  have hw := c1.1.1
  have hsm := c1.1.2.2.2.1
  have ld := dot30 hE hC hX (by omega)
  have t1 := dot_small (n := C.length) c0.2.2.2.2.2.1 hw c0.2.2.2.1
  rw [show IntKind.i64.wrap (dotZ C X C.length) = dotZ C X C.length from w64_id (by omega) (by omega)] at ld
  have lg := gcd31 hE (h := h' ++ [.cells [.int .i64 0, .int .i64 0, .int .i64 0] 32 (some 0)]) (a := dotZ C X C.length) (b := xd) (by omega) (by omega)
  have gpos : 0 < Nat.gcd (dotZ C X C.length).natAbs xd.natAbs := Nat.gcd_pos_of_pos_right _ (by omega)
  have hv1 : IntKind.i64.wrap ((dotZ C X C.length).tdiv (Nat.gcd (dotZ C X C.length).natAbs xd.natAbs)) = valN C X xd := by
    unfold valN
    have := Int.natAbs_tdiv_le_natAbs (dotZ C X C.length) (Nat.gcd (dotZ C X C.length).natAbs xd.natAbs)
    rw [w64_id] <;> omega
  have hv2 : IntKind.i64.wrap (xd.tdiv (Nat.gcd (dotZ C X C.length).natAbs xd.natAbs)) = valD C X xd := by
    unfold valD
    have := Int.natAbs_tdiv_le_natAbs xd (Nat.gcd (dotZ C X C.length).natAbs xd.natAbs)
    rw [w64_id] <;> omega
  simp [rN, sN, s0, s1, s2, r2, DC_of l14, c0, c1, DC_of ld, DC_of lg, -List.length_append, hm, binV_quo (show ((Nat.gcd (dotZ C X C.length).natAbs xd.natAbs : Nat) : Int) ≠ 0 by omega), hv1, hv2]
  refine ⟨fun hh => by simp [show Nat.testBit 255 4 = true from rfl] at hh, ?_⟩
  rw [bt, pairQ_mk]
  simp [he]
end Go.Proofs.Ytdbkhecnkhjhpaa
