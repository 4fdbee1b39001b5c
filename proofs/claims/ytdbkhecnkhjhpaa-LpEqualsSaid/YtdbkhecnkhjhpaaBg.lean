/- Texts that were built one by one: Lp1, Lp2, Lp3, Lp4, Lp5, Lp6, Lp7. -/
import Derived.Test.YtdbkhecnkhjhpaaBd
import Derived.Test.YtdbkhecnkhjhpaaAiF
/- What the small functions of layer 12 return. -/
namespace Go.Proofs.Ytdbkhecnkhjhpaa
open Go Go.Ai
set_option linter.unusedSimpArgs false
set_option linter.unusedVariables false
attribute [local instance] Classical.propDecidable
structure LpE (E : Env) : Prop where
  F : E.F = rF
  S : ∀ f, f ≠ 16 → f ≠ 12 → f ≠ 39 → f ≠ 60 → E.S f = none
variable {E : Env} (hE : LpE E)
include hE
theorem LpE.fn {f : FuncId} {body : R} {res : List RRes} {args : List Value} {st : St} {o : Out} {st' : St} (h : rF f = some ⟨body, res⟩) (hf : f ≠ 16 ∧ f ≠ 12 ∧ f ≠ 39 ∧ f ≠ 60) (hw : DW E body args st (endK res st fun o2 st2 => o2 = o ∧ st2 = st')) : DR E f args st o st' :=
  DR_of ((DC_fn (by rw [hE.F]; exact h) (hE.S f hf.1 hf.2.1 hf.2.2.1 hf.2.2.2)).2 hw)
theorem LpE.fnC {f : FuncId} {body : R} {res : List RRes} {args : List Value} {st : St} {Q : Out → St → Prop} (h : rF f = some ⟨body, res⟩) (hf : f ≠ 16 ∧ f ≠ 12 ∧ f ≠ 39 ∧ f ≠ 60) (hw : DW E body args st (endK res st Q)) : DC E f args st Q :=
  (DC_fn (by rw [hE.F]; exact h) (hE.S f hf.1 hf.2.1 hf.2.2.1 hf.2.2.2)).2 hw

def dotZ (xs ys : List Int) (n : Nat) : Int := sumN (fun i => nth xs i * nth ys i) n

theorem dot28 {h : List O} {va vb : Value} {xs ys : List Int} (ha : Ints h va xs) (hb : Ints h vb ys) (hl : xs.length ≤ ys.length) :
    DR E 28 [va, vb] ⟨h, h.length⟩ (.ret (.int .i64 (IntKind.i64.wrap (dotZ xs ys xs.length)))) ⟨h, h.length⟩ := by
  refine hE.fn (body := rb28) rfl (by decide) ?_
  unfold rb28
  obtain ⟨a, b, o, c, rfl, h2, h3, h4, h5⟩ := ha
  obtain ⟨a', b', o', c', rfl, h2', h3', h4', h5'⟩ := hb
  simp
  refine DW_loop (fun k fr st => ∃ i : Nat, i + k = xs.length ∧ st = ⟨h, h.length⟩ ∧ get fr 8 = .slice a xs.length c ∧ get fr 9 = .int .i64 xs.length ∧ get fr 10 = .int .i64 i ∧ get fr 5 = .int .i64 (IntKind.i64.wrap (dotZ xs ys i)) ∧ get fr 1 = .slice a' ys.length c') ?_ (k := xs.length) ?_
  · rintro k fr st ⟨i, hi, rfl, g8, g9, g10, g5, g1⟩
    by_cases hlt : i < xs.length
    · obtain rfl := h2 (by omega)
      obtain rfl := h2' (by omega)
      simp [g8, g9, g10, g5, g1, hlt, h3 i hlt, h3' i (by omega), show i < ys.length by omega]
      refine ⟨k - 1, by omega, i + 1, by omega, ?_, ?_⟩
      · rw [w64_id] <;> omega
      · simp [dotZ, sumN]
    · have : i = xs.length := by omega
      subst this
      simp [g8, g9, g10, g5, g1]
  · exact ⟨0, by simp [dotZ, sumN, w64_id]⟩

theorem dot30 {h : List O} {va vb : Value} {xs ys : List Int} (ha : Ints h va xs) (hb : Ints h vb ys) (hl : xs.length ≤ ys.length) :
    DR E 30 [va, vb] ⟨h, h.length⟩ (.ret (.int .i64 (IntKind.i64.wrap (dotZ xs ys xs.length)))) ⟨h, h.length⟩ := by
  refine hE.fn (body := rb30) rfl (by decide) ?_
  unfold rb30
  obtain ⟨a, b, o, c, rfl, h2, h3, h4, h5⟩ := ha
  obtain ⟨a', b', o', c', rfl, h2', h3', h4', h5'⟩ := hb
  simp
  refine DW_loop (fun k fr st => ∃ i : Nat, i + k = xs.length ∧ st = ⟨h, h.length⟩ ∧ get fr 0 = .slice a xs.length c ∧ get fr 6 = .int .i64 i ∧ get fr 5 = .int .i64 (IntKind.i64.wrap (dotZ xs ys i)) ∧ get fr 1 = .slice a' ys.length c') ?_ (k := xs.length) ?_
  · rintro k fr st ⟨i, hi, rfl, g0, g6, g5, g1⟩
    by_cases hlt : i < xs.length
    · obtain rfl := h2 (by omega)
      obtain rfl := h2' (by omega)
      simp [g0, g6, g5, g1, hlt, h3 i hlt, h3' i (by omega), show i < ys.length by omega]
      refine ⟨k - 1, by omega, i + 1, by omega, ?_, ?_⟩
      · rw [w64_id] <;> omega
      · simp [dotZ, sumN]
    · have : i = xs.length := by omega
      subst this
      simp [g0, g6, g5, g1]
  · exact ⟨0, by simp [dotZ, sumN, w64_id]⟩

/-- All numbers are at most so large. -/
def Within (xs : List Int) (m : Int) : Prop := ∀ i, i < xs.length → -m ≤ nth xs i ∧ nth xs i ≤ m

theorem within33 {h : List O} {v : Value} {xs : List Int} {m : Int} (hv : Ints h v xs) (hm : 0 ≤ m ∧ m ≤ 1099511627776) :
    DR E 33 [v, .int .i64 m] ⟨h, h.length⟩ (.ret (.bool (decide (Within xs m)))) ⟨h, h.length⟩ := by
  refine hE.fn (body := rb33) rfl (by decide) ?_
  unfold rb33
  obtain ⟨a, b, o, c, rfl, h2, h3, h4, h5⟩ := hv
  have hneg : IntKind.i64.wrap (-m) = -m := w64_id (by omega) (by omega)
  simp
  refine DW_loop (fun k fr st => ∃ i : Nat, i + k = xs.length ∧ st = ⟨h, h.length⟩ ∧ get fr 0 = .slice a xs.length c ∧ get fr 1 = .int .i64 m ∧ get fr 5 = .int .i64 i ∧ ∀ j, j < i → -m ≤ nth xs j ∧ nth xs j ≤ m) ?_ (k := xs.length) ?_
  · rintro k fr st ⟨i, hi, rfl, g0, g1, g5, hall⟩
    by_cases hlt : i < xs.length
    · obtain rfl := h2 (by omega)
      by_cases h6 : m < nth xs i
      · simp [g0, g1, g5, hlt, h3 i hlt, h6, hneg]
        exact fun hw => by have := (hw i hlt).2; omega
      · by_cases h7 : nth xs i < -m
        · simp [g0, g1, g5, hlt, h3 i hlt, h6, hneg, h7]
          exact fun hw => by have := (hw i hlt).1; omega
        · simp [g0, g1, g5, hlt, h3 i hlt, h6, hneg, h7]
          refine ⟨k - 1, by omega, i + 1, by omega, by rw [w64_id] <;> omega, fun j hj => ?_⟩
          rcases Nat.lt_succ_iff_lt_or_eq.1 hj with hj | rfl
          · exact hall j hj
          · omega
    · have : i = xs.length := by omega
      subst this
      simp [g0, g1, g5]
      exact hall
  · exact ⟨0, by simp⟩

def Pos (xs : List Int) : Prop := ∀ i, i < xs.length → 0 ≤ nth xs i
theorem pos54 {h : List O} {v : Value} {xs : List Int} (hv : Ints h v xs) :
    DR E 54 [v] ⟨h, h.length⟩ (.ret (.bool (decide (Pos xs)))) ⟨h, h.length⟩ := by
  refine hE.fn (body := rb54) rfl (by decide) ?_
  unfold rb54
  obtain ⟨a, b, o, c, rfl, h2, h3, h4, h5⟩ := hv
  simp
  refine DW_loop (fun k fr st => ∃ i : Nat, i + k = xs.length ∧ st = ⟨h, h.length⟩ ∧ get fr 0 = .slice a xs.length c ∧ get fr 3 = .int .i64 i ∧ ∀ j, j < i → 0 ≤ nth xs j) ?_ (k := xs.length) ?_
  · rintro k fr st ⟨i, hi, rfl, g0, g3, hall⟩
    by_cases hlt : i < xs.length
    · obtain rfl := h2 (by omega)
      by_cases h6 : nth xs i < 0
      · simp [g0, g3, hlt, h3 i hlt, h6]
        exact fun hw => by have := hw i hlt; omega
      · simp [g0, g3, hlt, h3 i hlt, h6]
        refine ⟨k - 1, by omega, i + 1, by omega, by rw [w64_id] <;> omega, fun j hj => ?_⟩
        rcases Nat.lt_succ_iff_lt_or_eq.1 hj with hj | rfl
        · exact hall j hj
        · omega
    · have : i = xs.length := by omega
      subst this
      simp [g0, g3]
      exact hall
  · exact ⟨0, by simp⟩

theorem abs46 {h : List O} {x : Int} (hx : I64 x ∧ x ≠ -9223372036854775808) :
    DR E 46 [.int .i64 x] ⟨h, h.length⟩ (.ret (.int .i64 (x.natAbs : Int))) ⟨h, h.length⟩ := by
  refine hE.fn (body := rb46) rfl (by decide) ?_
  unfold rb46
  simp
  rw [w64_id (by omega) (by omega)]
  omega
theorem c44 {h : List O} {x : Int} : DR E 44 [.int .i64 x] ⟨h, h.length⟩ (.ret (.bool (decide (¬ (-1000000 ≤ x ∧ x ≤ 1000000))))) ⟨h, h.length⟩ := by
  refine hE.fn (body := rb44) rfl (by decide) ?_
  unfold rb44
  by_cases h1 : 1000000 < x
  · simp [h1]
  · simp [h1]
theorem c47 {h : List O} {x : Int} : DR E 47 [.int .i64 x] ⟨h, h.length⟩ (.ret (.bool (decide (¬ (-1073741824 ≤ x ∧ x ≤ 1073741824))))) ⟨h, h.length⟩ := by
  refine hE.fn (body := rb47) rfl (by decide) ?_
  unfold rb47
  by_cases h1 : 1073741824 < x
  · simp [h1]
  · simp [h1]
theorem c51 {h : List O} {x : Int} : DR E 51 [.int .i64 x] ⟨h, h.length⟩ (.ret (.bool (decide (x < 0)))) ⟨h, h.length⟩ := by
  refine hE.fn (body := rb51) rfl (by decide) ?_
  unfold rb51
  simp
theorem c65 {h : List O} {x : Int} : DR E 65 [.int .i64 x] ⟨h, h.length⟩ (.ret (.bool (decide (x < 0)))) ⟨h, h.length⟩ := by
  refine hE.fn (body := rb65) rfl (by decide) ?_
  unfold rb65
  simp

theorem index64 {h : List O} {v : Value} {xs : List Int} {g : FuncId} {caps : List Value} {p : Int → Bool} (hv : Ints h v xs)
    (hg : ∀ x, DR E g (.int .i64 x :: caps) ⟨h, h.length⟩ (.ret (.bool (p x))) ⟨h, h.length⟩) :
    DR E 64 [v, .func (.func g) #[] caps.toArray] ⟨h, h.length⟩ (.ret (.int .i64 (firstI (fun i => p (nth xs i)) xs.length))) ⟨h, h.length⟩ := by
  refine hE.fn (body := rb64) rfl (by decide) ?_
  unfold rb64
  obtain ⟨a, b, o, c, rfl, h2, h3, h4, h5⟩ := hv
  simp
  refine DW_loop (fun k fr st => ∃ i : Nat, i + k = xs.length ∧ st = ⟨h, h.length⟩ ∧ get fr 0 = .slice a xs.length c ∧ get fr 1 = .func (.func g) #[] caps.toArray ∧ get fr 7 = .int .i64 xs.length ∧ get fr 8 = .int .i64 i ∧ ∀ j, j < i → p (nth xs j) = false) ?_ (k := xs.length) ?_
  · rintro k fr st ⟨i, hi, rfl, g0, g1, g7, g8, hall⟩
    by_cases hlt : i < xs.length
    · obtain rfl := h2 (by omega)
      simp [g0, g1, g7, g8, hlt, h3 i hlt, DC_of (hg (nth xs i))]
      cases hp : p (nth xs i) with
      | true => simp [firstI_found (p := fun i => p (nth xs i)) hlt hp hall]
      | false =>
        simp [g0, g1, g7, g8]
        refine ⟨k - 1, by omega, i + 1, by omega, by rw [w64_id] <;> omega, fun j hj => ?_⟩
        rcases Nat.lt_succ_iff_lt_or_eq.1 hj with hj | rfl
        · exact hall j hj
        · exact hp
    · have : i = xs.length := by omega
      subst this
      simp [g0, g1, g7, g8, firstI_none (p := fun i => p (nth xs i)) hall]
  · exact ⟨0, by simp⟩
theorem contains43 {h : List O} {v : Value} {xs : List Int} {g : FuncId} {caps : List Value} {p : Int → Bool} (hv : Ints h v xs)
    (hg : ∀ x, DR E g (.int .i64 x :: caps) ⟨h, h.length⟩ (.ret (.bool (p x))) ⟨h, h.length⟩) :
    DR E 43 [v, .func (.func g) #[] caps.toArray] ⟨h, h.length⟩ (.ret (.bool (decide (∃ i, i < xs.length ∧ p (nth xs i) = true)))) ⟨h, h.length⟩ := by
  refine hE.fn (body := rb43) rfl (by decide) ?_
  unfold rb43
  simp [DC_of (index64 hE hv hg)]
  rcases firstI_cases (fun i => p (nth xs i)) xs.length with ⟨i, h1, h2, h3, h4⟩ | ⟨h1, h2⟩
  · simp only [h4]
    have : (∃ i, i < xs.length ∧ p (nth xs i) = true) := ⟨i, h1, h2⟩
    simp [this]
  · simp only [h2]
    have : ¬ (∃ i, i < xs.length ∧ p (nth xs i) = true) := fun ⟨i, h3, h4⟩ => by simp [h1 i h3] at h4
    simp [this]
theorem large42 {h : List O} {v : Value} {xs : List Int} (hv : Ints h v xs) :
    DR E 42 [v] ⟨h, h.length⟩ (.ret (.bool (decide (¬ Within xs 1000000)))) ⟨h, h.length⟩ := by
  refine hE.fn (body := rb42) rfl (by decide) ?_
  unfold rb42
  simp [DC_of (contains43 hE (caps := []) hv fun x => c44 hE)]
  unfold Within
  have e : (∃ i, i < xs.length ∧ (nth xs i < -1000000 ∨ 1000000 < nth xs i)) ↔ ¬ ∀ (i : Nat), i < xs.length → -1000000 ≤ nth xs i ∧ nth xs i ≤ 1000000 := by
    constructor
    · rintro ⟨i, h1, h2⟩ hw
      have := hw i h1
      omega
    · intro hw
      refine Classical.byContradiction fun hn => hw fun i hi => Classical.byContradiction fun h => hn ⟨i, hi, ?_⟩
      omega
  rw [show decide (∃ i, i < xs.length ∧ (nth xs i < -1000000 ∨ 1000000 < nth xs i)) = decide (¬ ∀ (i : Nat), i < xs.length → -1000000 ≤ nth xs i ∧ nth xs i ≤ 1000000) from decide_eq_decide.2 e, decide_not]
  exact congrArg _ (decide_eq_decide.2 Iff.rfl)
end Go.Proofs.Ytdbkhecnkhjhpaa
/- Which programs are valid. -/
namespace Go.Proofs.Ytdbkhecnkhjhpaa
open Go Go.Ai
set_option linter.unusedSimpArgs false
set_option linter.unusedVariables false
attribute [local instance] Classical.propDecidable
variable {E : Env} (hE : LpE E)

/-- A linear program in memory. -/
structure LpAt (h : List O) (v : Value) (A : List (List Int)) (B C : List Int) : Prop where
  out : ∃ vA vB vC, v = .agg #[vA, vB, vC] ∧ Mat h vA A ∧ Ints h vB B ∧ Ints h vC C
theorem LpAt.ext {h h' : List O} {v : Value} {A : List (List Int)} {B C : List Int} (hp : LpAt h v A B C) (k : Ext h h') : LpAt h' v A B C := by
  obtain ⟨vA, vB, vC, h1, h2, h3, h4⟩ := hp.out
  exact ⟨vA, vB, vC, h1, h2.ext k, h3.ext k, h4.ext k⟩

def Valid (A : List (List Int)) (B C : List Int) : Prop :=
  A.length ≤ 60 ∧ B.length = A.length ∧ 1 ≤ C.length ∧ C.length ≤ 60 ∧ Within B 1000000 ∧ Within C 1000000 ∧ ∀ i, i < A.length → (nthR A i).length = C.length ∧ Within (nthR A i) 1000000

include hE
theorem check24 {h : List O} {v : Value} {A : List (List Int)} {B C : List Int} (hp : LpAt h v A B C) :
    DR E 24 [v] ⟨h, h.length⟩ (.ret (.int .i64 (if Valid A B C then 0 else 120))) ⟨h, h.length⟩ := by
  refine hE.fn (body := rb24) rfl (by decide) ?_
  unfold rb24
  rw [DW_seq, DW_ops]
  refine DL_boxed fun h' p hx hlen hp0 hb => ?_
  obtain ⟨vA, vB, vC, rfl, hA, hB, hC⟩ := (hp.ext hx).out
  simp at hb
  have r0 := hb.rd 0
  have r1 := hb.rd 1
  have r2 := hb.rd 2
  simp at r0 r1 r2
  have lB := large42 hE hB
  have lC := large42 hE hC
  obtain ⟨aA, bA, oA, cA, vs, rfl, hA2, hA3, hA4⟩ := hA
  obtain ⟨aB, bB, oB, cB, rfl, hB2, hB3, hB4, hB5⟩ := hB
  obtain ⟨aC, bC, oC, cC, rfl, hC2, hC3, hC4, hC5⟩ := hC
  have inv : ∀ {P : Prop}, (Valid A B C → P) → ¬ P → ¬ Valid A B C := fun h k v => k (h v)
  by_cases c1 : (60:Int) < A.length
  · have hv := inv (fun v => v.1) (by omega)
    simp [r0, r1, r2, c1, hv]
  by_cases c2 : ¬ B.length = A.length
  · have hv := inv (fun v => v.2.1) c2
    simp [r0, r1, r2, c1, c2, hv]
  replace c2 := eq_true (Classical.not_not.1 c2)
  by_cases c3 : (C.length:Int) < 1
  · have hv := inv (fun v => v.2.2.1) (by omega)
    simp [r0, r1, r2, c1, c2, c3, hv]
  by_cases c4 : (60:Int) < C.length
  · have hv := inv (fun v => v.2.2.2.1) (by omega)
    simp [r0, r1, r2, c1, c2, c3, c4, hv]
  by_cases c5 : ¬ Within B 1000000
  · have hv := inv (fun v => v.2.2.2.2.1) c5
    simp [r0, r1, r2, c1, c2, c3, c4, DC_of lB, c5, hv]
  replace c5 := Classical.not_not.1 c5
  by_cases c6 : ¬ Within C 1000000
  · have hv := inv (fun v => v.2.2.2.2.2.1) c6
    simp [r0, r1, r2, c1, c2, c3, c4, DC_of lB, DC_of lC, c5, c6, hv]
  replace c6 := Classical.not_not.1 c6
  simp [r0, r1, r2, c1, c2, c3, c4, DC_of lB, DC_of lC, c5, c6]
  refine DW_loop (fun k fr st => ∃ i : Nat, i + k = A.length ∧ st = ⟨h', h.length⟩ ∧ get fr 1 = .pointer (some ⟨p, 0, none⟩) ∧ get fr 3 = .func (.func 42) #[] #[] ∧ get fr 44 = .slice aA A.length cA ∧ get fr 45 = .int .i64 A.length ∧ get fr 46 = .int .i64 i ∧ ∀ j, j < i → (nthR A j).length = C.length ∧ Within (nthR A j) 1000000) ?_ (k := A.length) ?_
  · rintro k fr st ⟨i, hi, rfl, g1, g3, g44, g45, g46, hall⟩
    by_cases hlt : i < A.length
    · obtain rfl := hA2 (by omega)
      obtain ⟨hr, hI⟩ := hA3 i hlt
      have lI := large42 hE hI
      obtain ⟨aI, bI, oI, cI, hvs, hI2, hI3, hI4, hI5⟩ := hI
      rw [hvs] at hr lI
      by_cases c7 : ¬ (nthR A i).length = C.length
      · have hv := inv (fun v => (v.2.2.2.2.2.2 i hlt).1) c7
        simp [g1, g3, g44, g45, g46, hlt, hr, r2, c7, hv]
      replace c7 := eq_true (Classical.not_not.1 c7)
      by_cases c8 : ¬ Within (nthR A i) 1000000
      · have hv := inv (fun v => (v.2.2.2.2.2.2 i hlt).2) c8
        simp [g1, g3, g44, g45, g46, hlt, hr, r2, c7, DC_of lI, c8, hv]
      replace c8 := Classical.not_not.1 c8
      simp [g1, g3, g44, g45, g46, hlt, hr, r2, c7, DC_of lI, c8]
      refine ⟨k - 1, by omega, i + 1, by omega, by rw [w64_id] <;> omega, fun j hj => ?_⟩
      rcases Nat.lt_succ_iff_lt_or_eq.1 hj with hj | rfl
      · exact hall j hj
      · exact ⟨of_eq_true c7, c8⟩
    · have : i = A.length := by omega
      have hv : Valid A B C := ⟨by omega, of_eq_true c2, by omega, by omega, c5, c6, fun j hj => hall j (by omega)⟩
      simp [g1, g3, g44, g45, g46, hlt, hv]
  · exact ⟨0, by simp⟩

theorem check15 {h : List O} {v : Value} {A : List (List Int)} {B C : List Int} (hp : LpAt h v A B C) :
    DR E 15 [v] ⟨h, h.length⟩ (.ret (.int .i64 (if Valid A B C then 0 else 120))) ⟨h, h.length⟩ := by
  refine hE.fn (body := rb15) rfl (by decide) ?_
  unfold rb15
  rw [DW_seq, DW_ops]
  refine DL_boxed fun h' p hx hlen hp0 hb => ?_
  obtain ⟨vA, vB, vC, rfl, hA, hB, hC⟩ := (hp.ext hx).out
  simp at hb
  have r0 := hb.rd 0
  have r1 := hb.rd 1
  have r2 := hb.rd 2
  simp at r0 r1 r2
  have lB := within33 hE hB (m := 1000000) (by decide)
  have lC := within33 hE hC (m := 1000000) (by decide)
  obtain ⟨aA, bA, oA, cA, vs, rfl, hA2, hA3, hA4⟩ := hA
  obtain ⟨aB, bB, oB, cB, rfl, hB2, hB3, hB4, hB5⟩ := hB
  obtain ⟨aC, bC, oC, cC, rfl, hC2, hC3, hC4, hC5⟩ := hC
  have inv : ∀ {P : Prop}, (Valid A B C → P) → ¬ P → ¬ Valid A B C := fun h k v => k (h v)
  by_cases c1 : (60:Int) < A.length
  · have hv := inv (fun v => v.1) (by omega)
    simp [r0, r1, r2, c1, hv]
  by_cases c2 : ¬ B.length = A.length
  · have hv := inv (fun v => v.2.1) c2
    simp [r0, r1, r2, c1, c2, hv]
  replace c2 := eq_true (Classical.not_not.1 c2)
  by_cases c3 : (C.length:Int) < 1
  · have hv := inv (fun v => v.2.2.1) (by omega)
    simp [r0, r1, r2, c1, c2, c3, hv]
  by_cases c4 : (60:Int) < C.length
  · have hv := inv (fun v => v.2.2.2.1) (by omega)
    simp [r0, r1, r2, c1, c2, c3, c4, hv]
  by_cases c5 : ¬ Within B 1000000
  · have hv := inv (fun v => v.2.2.2.2.1) c5
    simp [r0, r1, r2, c1, c2, c3, c4, DC_of lB, c5, hv]
  replace c5 := Classical.not_not.1 c5
  by_cases c6 : ¬ Within C 1000000
  · have hv := inv (fun v => v.2.2.2.2.2.1) c6
    simp [r0, r1, r2, c1, c2, c3, c4, DC_of lB, DC_of lC, c5, c6, hv]
  replace c6 := Classical.not_not.1 c6
  simp [r0, r1, r2, c1, c2, c3, c4, DC_of lB, DC_of lC, c5, c6]
  refine DW_loop (fun k fr st => ∃ i : Nat, i + k = A.length ∧ st = ⟨h', h.length⟩ ∧ get fr 1 = .pointer (some ⟨p, 0, none⟩) ∧ get fr 3 = .int .i64 C.length ∧ get fr 4 = .int .i64 i ∧ ∀ j, j < i → (nthR A j).length = C.length ∧ Within (nthR A j) 1000000) ?_ (k := A.length) ?_
  · rintro k fr st ⟨i, hi, rfl, g1, g3, g4, hall⟩
    by_cases hlt : i < A.length
    · obtain rfl := hA2 (by omega)
      obtain ⟨hr, hI⟩ := hA3 i hlt
      have lI := within33 hE hI (m := 1000000) (by decide)
      obtain ⟨aI, bI, oI, cI, hvs, hI2, hI3, hI4, hI5⟩ := hI
      rw [hvs] at hr lI
      by_cases c7 : ¬ (nthR A i).length = C.length
      · have hv := inv (fun v => (v.2.2.2.2.2.2 i hlt).1) c7
        simp [g1, g3, g4, hlt, hr, r0, r2, c7, hv]
      replace c7 := eq_true (Classical.not_not.1 c7)
      by_cases c8 : ¬ Within (nthR A i) 1000000
      · have hv := inv (fun v => (v.2.2.2.2.2.2 i hlt).2) c8
        simp [g1, g3, g4, hlt, hr, r0, r2, c7, DC_of lI, c8, hv]
      replace c8 := Classical.not_not.1 c8
      simp [g1, g3, g4, hlt, hr, r0, r2, c7, DC_of lI, c8]
      refine ⟨k - 1, by omega, i + 1, by omega, by rw [w64_id] <;> omega, fun j hj => ?_⟩
      rcases Nat.lt_succ_iff_lt_or_eq.1 hj with hj | rfl
      · exact hall j hj
      · exact ⟨of_eq_true c7, c8⟩
    · have : i = A.length := by omega
      have hv : Valid A B C := ⟨by omega, of_eq_true c2, by omega, by omega, c5, c6, fun j hj => hall j (by omega)⟩
      simp [g1, g3, g4, r0, hlt, hv]
  · exact ⟨0, by simp⟩
end Go.Proofs.Ytdbkhecnkhjhpaa
/- Columns, solutions, equal products: what the functions return. -/
namespace Go.Proofs.Ytdbkhecnkhjhpaa
open Go Go.Ai
set_option linter.unusedSimpArgs false
set_option linter.unusedVariables false
attribute [local instance] Classical.propDecidable
variable {E : Env} (hE : LpE E)

def colL (A : List (List Int)) (j : Nat) : List Int := (List.range A.length).map fun i => nth (nthR A i) j
theorem nth_colL {A : List (List Int)} {j i : Nat} (hi : i < A.length) : nth (colL A j) i = nth (nthR A i) j := by simp [nth, colL, hi]
@[simp] theorem length_colL {A : List (List Int)} {j : Nat} : (colL A j).length = A.length := by simp [colL]
def colN (A : List (List Int)) (j n : Nat) : List Int := (List.range n).map fun i => nth (nthR A i) j

/-- Every row is as long. -/
def Rect (A : List (List Int)) (n : Nat) : Prop := ∀ i, i < A.length → (nthR A i).length = n

include hE
theorem column49 {h : List O} {v : Value} {A : List (List Int)} {B C : List Int} {j : Nat} (hp : LpAt h v A B C) (hA : Rect A C.length) (hl : A.length ≤ 60) (hj : j < C.length) :
    DC E 49 [v, .int .i64 j] ⟨h, h.length⟩ fun o st => ∃ v', o = .ret v' ∧ Ext h st.h ∧ st.fl = h.length ∧ Ints st.h v' (colL A j) := by
  refine hE.fnC (body := rb49) rfl (by decide) ?_
  unfold rb49
  rw [DW_seq, DW_ops]
  refine DL_boxed fun h' p hx hlen hp0 hb => ?_
  obtain ⟨vA, vB, vC, rfl, hA1, hB, hC⟩ := (hp.ext hx).out
  simp at hb
  have r0 := hb.rd 0
  simp at r0
  obtain ⟨aA, bA, oA, cA, vs, rfl, hA2, hA3, hA4⟩ := hA1
  simp [r0]
  refine DW_loop (fun k fr st => ∃ i : Nat, i + k = A.length ∧ st.fl = h.length ∧ Ext h' st.h ∧ get fr 1 = .int .i64 j ∧ get fr 9 = .slice aA A.length cA ∧ get fr 10 = .int .i64 A.length ∧ get fr 11 = .int .i64 i ∧ OwnS st.h h'.length (get fr 5) i ((colN A j i).map (.int .i64)) 3 1) ?_ (k := A.length) ?_
  · rintro k fr ⟨H, f⟩ ⟨i, hi, hf, hH, g1, g9, g10, g11, g5⟩
    simp at hf hH g5
    subst hf
    by_cases hlt : i < A.length
    · obtain rfl := hA2 (by omega)
      obtain ⟨hr, hI⟩ := hA3 i hlt
      obtain ⟨aI, bI, oI, cI, hvs, hI2, hI3, hI4, hI5⟩ := hI
      rw [hvs] at hr
      have hjl : j < (nthR A i).length := by rw [hA i hlt]; exact hj
      obtain rfl := hI2 (by omega)
      have hr' := hH.rd hr
      have hx' := hH.rd (hI3 j hjl)
      obtain ⟨v', H', e1, e2, e3⟩ := append_own (H := H ++ [.cells [.int .i64 (nth (nthR A i) j)] 3 (some 0)]) (n := 1) (fl := h.length) (c := 1) (bytes := 8) (xb := some ⟨H.length, 0, none⟩) (new := [.int .i64 (nth (nthR A i) j)]) (g5.ext (Ext.snoc _ _)) (by simp [readSlice]) rfl rfl (hH.trans (Ext.snoc _ _)) rfl (by omega) (by simp [roomMax]; omega) (by omega)
      simp [g1, g9, g10, g11, hlt, hr', hjl, hx', fillL, setL, e1]
      refine ⟨k - 1, by omega, i + 1, by omega, e3, by rw [w64_id] <;> omega, ?_⟩
      have : (colN A j (i + 1)).map (Value.int .i64) = (colN A j i).map (Value.int .i64) ++ [.int .i64 (nth (nthR A i) j)] := by
        simp [colN, List.range_succ]
      rw [this]; exact e2
    · have : i = A.length := by omega
      subst this
      rw [show colN A j A.length = colL A j from rfl] at g5
      have hI : Ints H (get fr 5) (colL A j) := by
        refine g5.ints (fun i => ?_) hA4
        by_cases hi : i < A.length
        · rw [nth_colL hi]
          obtain ⟨_, _, _, _, _, _, _, h4, _⟩ := (hA3 i hi).2
          exact h4 j
        · rw [nth_ge (by simp; omega)]; exact ⟨by omega, by omega⟩
      simp [g1, g9, g10, g11]
      by_cases hs : (Out.ret (get fr 5)).scalar = true ∧ h.length ≤ h.length
      · -- the nil slice: the memory is forgotten
        have hnil : get fr 5 = .slice none 0 0 ∧ A.length = 0 := by
          rcases g5.2 with h1 | ⟨b, s, h1, _⟩
          · exact h1
          · rw [h1] at hs; simp [Out.scalar, scalar, flat1, flat] at hs
        rw [back_scalar hs.1 hs.2, hnil.1]
        refine ⟨_, rfl, Ext.refl _, rfl, ?_⟩
        have : colL A j = [] := by simp [colL, hnil.2]
        rw [this]; exact Ints.nil
      · have hb' : back ⟨h, h.length⟩ (.ret (get fr 5)) ⟨H, h.length⟩ = (.ret (get fr 5), ⟨H, h.length⟩) := by
          unfold back
          rw [if_neg (by simpa using hs)]
        rw [hb']
        exact ⟨_, rfl, hx.trans hH, rfl, hI⟩
  · exact ⟨0, by simp, by simp, by simp [Ext.refl], by simp, by simp, by simp, by simp, by simp [colN]; exact OwnS.nil _ _ _ _⟩

omit hE in
theorem Within.all {xs : List Int} {m : Int} (h : Within xs m) (hm : 0 ≤ m) (i : Nat) : -m ≤ nth xs i ∧ nth xs i ≤ m := by
  by_cases hi : i < xs.length
  · exact h i hi
  · rw [nth_ge (by omega)]; omega
omit hE in
theorem dotZ_bound {xs ys : List Int} {a b : Int} {n : Nat} (ha : Within xs a) (hb : Within ys b) (h1 : 0 ≤ a) (h2 : 0 ≤ b) : -(n * (a * b)) ≤ dotZ xs ys n ∧ dotZ xs ys n ≤ n * (a * b) :=
  sumN_bound fun i _ => mul_bound (ha.all h1 i) (hb.all h2 i)
omit hE in
theorem dot_small {xs ys : List Int} {n : Nat} (ha : Within xs 1000000) (hb : Within ys 1073741824) (hn : n ≤ 60) : -64424509440000000 ≤ dotZ xs ys n ∧ dotZ xs ys n ≤ 64424509440000000 := by
  have := dotZ_bound (n := n) ha hb (by omega) (by omega)
  have h3 : (n : Int) * (1000000 * 1073741824) ≤ 60 * (1000000 * 1073741824) := Int.mul_le_mul_of_nonneg_right (by omega) (by omega)
  omega
omit hE in
theorem dot_small' {xs ys : List Int} {n : Nat} (ha : Within xs 1073741824) (hb : Within ys 1000000) (hn : n ≤ 60) : -64424509440000000 ≤ dotZ xs ys n ∧ dotZ xs ys n ≤ 64424509440000000 := by
  have := dotZ_bound (n := n) ha hb (by omega) (by omega)
  have h3 : (n : Int) * (1073741824 * 1000000) ≤ 60 * (1073741824 * 1000000) := Int.mul_le_mul_of_nonneg_right (by omega) (by omega)
  omega

/-- x over the denominator is a solution. -/
def IsSol (A : List (List Int)) (B C X : List Int) (xd : Int) : Prop := 1 ≤ xd ∧ X.length = C.length ∧ Pos X ∧ ∀ i, i < A.length → dotZ (nthR A i) X C.length = xd * nth B i

theorem isSolution48 {h : List O} {v vX : Value} {A : List (List Int)} {B C X : List Int} {xd : Int} (hp : LpAt h v A B C) (hX : Ints h vX X) (hv : Valid A B C) (hW : Within X 1073741824) (hd : -1073741824 ≤ xd ∧ xd ≤ 1073741824) :
    DR E 48 [v, vX, .int .i64 xd] ⟨h, h.length⟩ (.ret (.bool (decide (IsSol A B C X xd)))) ⟨h, h.length⟩ := by
  refine hE.fn (body := rb48) rfl (by decide) ?_
  unfold rb48
  rw [DW_seq, DW_ops]
  refine DL_boxed fun h' p hx hlen hp0 hb => ?_
  obtain ⟨vA, vB, vC, rfl, hA1, hB, hC⟩ := (hp.ext hx).out
  replace hX := hX.ext hx
  simp at hb
  have r0 := hb.rd 0
  have r1 := hb.rd 1
  have r2 := hb.rd 2
  simp at r0 r1 r2
  obtain ⟨v1, v2, v3, v4, v5, v6, v7⟩ := hv
  have lX := contains43 hE (caps := []) hX fun x => c65 hE
  have hX0 := hX
  obtain ⟨aA, bA, oA, cA, vs, rfl, hA2, hA3, hA4⟩ := hA1
  obtain ⟨aB, bB, oB, cB, rfl, hB2, hB3, hB4, hB5⟩ := hB
  obtain ⟨aC, bC, oC, cC, rfl, hC2, hC3, hC4, hC5⟩ := hC
  obtain ⟨aX, bX, oX, cX, rfl, hX2, hX3, hX4, hX5⟩ := hX
  have inv : ∀ {P : Prop}, (IsSol A B C X xd → P) → ¬ P → ¬ IsSol A B C X xd := fun h k v => k (h v)
  have lneg : (∃ i, i < X.length ∧ decide (nth X i < 0) = true) ↔ ¬ Pos X := by
    simp only [decide_eq_true_eq, Pos]
    constructor
    · rintro ⟨i, h1, h2⟩ h3; have := h3 i h1; omega
    · intro h3; refine Classical.byContradiction fun hn => h3 fun i hi => Classical.byContradiction fun h => hn ⟨i, hi, by omega⟩
  rw [show decide (∃ i, i < X.length ∧ decide (nth X i < 0) = true) = decide (¬ Pos X) from decide_eq_decide.2 lneg] at lX
  by_cases c1 : xd < 1
  · have hv := inv (fun v => v.1) (by omega)
    simp [c1, hv]
  by_cases c2 : ¬ X.length = C.length
  · have hv := inv (fun v => v.2.1) c2
    simp [r0, r1, r2, c1, c2, hv]
  replace c2 := eq_true (Classical.not_not.1 c2)
  by_cases c3 : ¬ Pos X
  · have hv := inv (fun v => v.2.2.1) c3
    simp [r0, r1, r2, c1, c2, DC_of lX, c3, hv]
  replace c3 := Classical.not_not.1 c3
  simp [r0, r1, r2, c1, c2, DC_of lX, c3]
  refine DW_loop (fun k fr st => ∃ i : Nat, i + k = A.length ∧ st = ⟨h', h.length⟩ ∧ get fr 1 = .slice aX X.length cX ∧ get fr 2 = .int .i64 xd ∧ get fr 3 = .pointer (some ⟨p, 0, none⟩) ∧ get fr 24 = .slice aA A.length cA ∧ get fr 25 = .int .i64 A.length ∧ get fr 26 = .int .i64 i ∧ ∀ j, j < i → dotZ (nthR A j) X C.length = xd * nth B j) ?_ (k := A.length) ?_
  · rintro k fr st ⟨i, hi, rfl, g1, g2, g3, g24, g25, g26, hall⟩
    by_cases hlt : i < A.length
    · have eA := hA2 (by omega)
      have eB := hB2 (by omega)
      obtain ⟨hr, hI⟩ := hA3 i hlt
      obtain ⟨q1, q2⟩ := v7 i hlt
      have q3 := of_eq_true c2
      have ld := dot28 hE hI hX0 (by omega)
      have s1 := dot_small (n := (nthR A i).length) q2 hW (by omega)
      have s2 := v5 i (by omega)
      have s3 := mul_bound (a := 1073741824) (b := 1000000) hd s2
      have s5 : IntKind.i64.wrap (dotZ (nthR A i) X (nthR A i).length) = dotZ (nthR A i) X (nthR A i).length := w64_id (by omega) (by omega)
      rw [s5, q1] at ld
      have s4 : IntKind.i64.wrap (xd * nth B i) = xd * nth B i := w64_id (by omega) (by omega)
      by_cases c4 : dotZ (nthR A i) X C.length = xd * nth B i
      · simp [g1, g2, g3, g24, g25, g26, hlt, eA, hr, DC_of ld, r1, eB, hB3 i (by omega), show i < B.length by omega, s4, c4]
        refine ⟨k - 1, by omega, i + 1, by omega, by rw [w64_id] <;> omega, fun j hj => ?_⟩
        rcases Nat.lt_succ_iff_lt_or_eq.1 hj with hj | rfl
        · exact hall j hj
        · exact c4
      · have hv := inv (fun v => v.2.2.2 i hlt) c4
        simp [g1, g2, g3, g24, g25, g26, hlt, eA, hr, DC_of ld, r1, eB, hB3 i (by omega), show i < B.length by omega, s4, c4, hv]
    · have : i = A.length := by omega
      have hv : IsSol A B C X xd := ⟨by omega, of_eq_true c2, c3, fun j hj => hall j (by omega)⟩
      simp [g1, g2, g3, g24, g25, g26, hlt, hv]
  · exact ⟨0, by simp⟩
end Go.Proofs.Ytdbkhecnkhjhpaa
/- The reference's solutions; products of two words. -/
namespace Go.Proofs.Ytdbkhecnkhjhpaa
open Go Go.Ai
set_option linter.unusedSimpArgs false
set_option linter.unusedVariables false
attribute [local instance] Classical.propDecidable
variable {E : Env} (hE : LpE E)
include hE

theorem leads63 {h : List O} {v vX : Value} {A : List (List Int)} {B C X : List Int} {xd : Int} (hp : LpAt h v A B C) (hX : Ints h vX X) (hv : Valid A B C) (hl : X.length = C.length) (hW : Within X 1073741824) (hd : -1073741824 ≤ xd ∧ xd ≤ 1073741824) :
    DR E 63 [v, vX, .int .i64 xd] ⟨h, h.length⟩ (.ret (.bool (decide (∀ i, i < A.length → dotZ (nthR A i) X C.length = xd * nth B i)))) ⟨h, h.length⟩ := by
  refine hE.fn (body := rb63) rfl (by decide) ?_
  unfold rb63
  rw [DW_seq, DW_ops]
  refine DL_boxed fun h' p hx hlen hp0 hb => ?_
  obtain ⟨vA, vB, vC, rfl, hA1, hB, hC⟩ := (hp.ext hx).out
  replace hX := hX.ext hx
  simp at hb
  have r0 := hb.rd 0
  have r1 := hb.rd 1
  simp at r0 r1
  obtain ⟨v1, v2, v3, v4, v5, v6, v7⟩ := hv
  obtain ⟨aA, bA, oA, cA, vs, rfl, hA2, hA3, hA4⟩ := hA1
  obtain ⟨aB, bB, oB, cB, rfl, hB2, hB3, hB4, hB5⟩ := hB
  simp [r0, r1]
  refine DW_loop (fun k fr st => ∃ i : Nat, i + k = A.length ∧ st = ⟨h', h.length⟩ ∧ get fr 1 = vX ∧ get fr 2 = .int .i64 xd ∧ get fr 3 = .pointer (some ⟨p, 0, none⟩) ∧ get fr 7 = .int .i64 i ∧ ∀ j, j < i → dotZ (nthR A j) X C.length = xd * nth B j) ?_ (k := A.length) ?_
  · rintro k fr st ⟨i, hi, rfl, g1, g2, g3, g7, hall⟩
    by_cases hlt : i < A.length
    · have eA := hA2 (by omega)
      have eB := hB2 (by omega)
      obtain ⟨hr, hI⟩ := hA3 i hlt
      obtain ⟨q1, q2⟩ := v7 i hlt
      have ld := dot30 hE hI hX (by omega)
      have s1 := dot_small (n := (nthR A i).length) q2 hW (by omega)
      have s2 := v5 i (by omega)
      have s3 := mul_bound (a := 1073741824) (b := 1000000) hd s2
      have s5 : IntKind.i64.wrap (dotZ (nthR A i) X (nthR A i).length) = dotZ (nthR A i) X (nthR A i).length := w64_id (by omega) (by omega)
      rw [s5, q1] at ld
      have s4 : IntKind.i64.wrap (xd * nth B i) = xd * nth B i := w64_id (by omega) (by omega)
      by_cases c4 : dotZ (nthR A i) X C.length = xd * nth B i
      · simp [g1, g2, g3, g7, hlt, eA, hr, DC_of ld, r0, r1, eB, hB3 i (by omega), show i < B.length by omega, s4, c4]
        refine ⟨k - 1, by omega, i + 1, by omega, by rw [w64_id] <;> omega, fun j hj => ?_⟩
        rcases Nat.lt_succ_iff_lt_or_eq.1 hj with hj | rfl
        · exact hall j hj
        · exact c4
      · simp [g1, g2, g3, g7, hlt, eA, hr, DC_of ld, r0, r1, eB, hB3 i (by omega), show i < B.length by omega, s4, c4]
        exact ⟨i, hlt, c4⟩
    · have : i = A.length := by omega
      simp [g1, g2, g3, g7, r0, hlt]
      intro j hj
      exact hall j (by omega)
  · exact ⟨0, by simp⟩

theorem isSolution40 {h : List O} {v vX : Value} {A : List (List Int)} {B C X : List Int} {xd : Int} (hp : LpAt h v A B C) (hX : Ints h vX X) (hv : Valid A B C) (hW : Within X 1073741824) (hd : -1073741824 ≤ xd ∧ xd ≤ 1073741824) :
    DR E 40 [v, vX, .int .i64 xd] ⟨h, h.length⟩ (.ret (.bool (decide (IsSol A B C X xd)))) ⟨h, h.length⟩ := by
  refine hE.fn (body := rb40) rfl (by decide) ?_
  unfold rb40
  rw [DW_seq, DW_ops]
  refine DL_boxed fun h' p hx hlen hp0 hb => ?_
  have hp' := hp.ext hx
  obtain ⟨vA, vB, vC, rfl, hA1, hB, hC⟩ := hp'.out
  replace hX := hX.ext hx
  simp at hb
  have r2 := hb.rd 2
  have rN := hb.rdN 0 3
  simp at r2 rN
  have lX := pos54 hE hX
  have inv : ∀ {P : Prop}, (IsSol A B C X xd → P) → ¬ P → ¬ IsSol A B C X xd := fun h k v => k (h v)
  obtain ⟨aC, bC, oC, cC, rfl, hC2, hC3, hC4, hC5⟩ := hC
  have hX0 := hX
  obtain ⟨aX, bX, oX, cX, rfl, hX2, hX3, hX4, hX5⟩ := hX
  by_cases c1 : ¬ 1 ≤ xd
  · have hv := inv (fun v => v.1) (by omega)
    simp [c1, hv]
  replace c1 := Classical.not_not.1 c1
  by_cases c2 : ¬ X.length = C.length
  · have hv := inv (fun v => v.2.1) c2
    simp [r2, c1, c2, hv]
  have c2' := Classical.not_not.1 c2
  replace c2 := eq_true (Classical.not_not.1 c2)
  by_cases c3 : ¬ Pos X
  · have hv := inv (fun v => v.2.2.1) c3
    simp [r2, c1, c2, DC_of lX, c3, hv]
  replace c3 := Classical.not_not.1 c3
  have ll := leads63 hE hp' hX0 hv c2' hW hd
  by_cases c4 : ∀ i, i < A.length → dotZ (nthR A i) X C.length = xd * nth B i
  · have hv : IsSol A B C X xd := ⟨c1, c2', c3, c4⟩
    rw [show decide (∀ i, i < A.length → dotZ (nthR A i) X C.length = xd * nth B i) = true from decide_eq_true c4] at ll
    simp [r2, rN, c1, c2, DC_of lX, c3, DC_of ll, hv]
  · have hv := inv (fun v => v.2.2.2) c4
    rw [show decide (∀ i, i < A.length → dotZ (nthR A i) X C.length = xd * nth B i) = false from decide_eq_false c4] at ll
    simp [r2, rN, c1, c2, DC_of lX, c3, DC_of ll, hv]

theorem column52 {h : List O} {v vY : Value} {A : List (List Int)} {B C Y : List Int} {j : Nat} (hp : LpAt h v A B C) (hY : Ints h vY Y) (hA : Rect A C.length) (hl : A.length ≤ Y.length) (hj : j < C.length) :
    DR E 52 [v, vY, .int .i64 j] ⟨h, h.length⟩ (.ret (.int .i64 (IntKind.i64.wrap (dotZ Y (colL A j) A.length)))) ⟨h, h.length⟩ := by
  refine hE.fn (body := rb52) rfl (by decide) ?_
  unfold rb52
  rw [DW_seq, DW_ops]
  refine DL_boxed fun h' p hx hlen hp0 hb => ?_
  obtain ⟨vA, vB, vC, rfl, hA1, hB, hC⟩ := (hp.ext hx).out
  replace hY := hY.ext hx
  simp at hb
  have r0 := hb.rd 0
  simp at r0
  obtain ⟨aA, bA, oA, cA, vs, rfl, hA2, hA3, hA4⟩ := hA1
  obtain ⟨aY, bY, oY, cY, rfl, hY2, hY3, hY4, hY5⟩ := hY
  simp [r0]
  refine DW_loop (fun k fr st => ∃ i : Nat, i + k = A.length ∧ st = ⟨h', h.length⟩ ∧ get fr 1 = .slice aY Y.length cY ∧ get fr 2 = .int .i64 j ∧ get fr 3 = .pointer (some ⟨p, 0, none⟩) ∧ get fr 8 = .int .i64 i ∧ get fr 7 = .int .i64 (IntKind.i64.wrap (dotZ Y (colL A j) i))) ?_ (k := A.length) ?_
  · rintro k fr st ⟨i, hi, rfl, g1, g2, g3, g8, g7⟩
    by_cases hlt : i < A.length
    · have eA := hA2 (by omega)
      have eY := hY2 (by omega)
      obtain ⟨hr, hI⟩ := hA3 i hlt
      obtain ⟨aI, bI, oI, cI, hvs, hI2, hI3, hI4, hI5⟩ := hI
      have hjl : j < (nthR A i).length := by rw [hA i hlt]; exact hj
      rw [hvs, hI2 (by omega)] at hr
      simp [g1, g2, g3, g7, g8, hlt, eA, hr, r0, eY, hY3 i (by omega), show i < Y.length by omega, hjl, hI3 j hjl]
      refine ⟨k - 1, by omega, i + 1, by omega, by rw [w64_id] <;> omega, ?_⟩
      simp [dotZ, sumN, nth_colL hlt]
    · have : i = A.length := by omega
      subst this
      simp [g1, g2, g3, g7, g8, r0]
  · exact ⟨0, by simp [dotZ, sumN, w64_id]⟩

/-! ### Words without a sign -/
omit hE in
theorem wu64 (x : Int) : IntKind.u64.wrap x = x % 18446744073709551616 := by
  simp [IntKind.wrap, IntKind.signed, IntKind.bits]
omit hE in
theorem binV_mask {x : Int} (h : 0 ≤ x ∧ x < 18446744073709551616) : binV .and (.int .u64 x) (.int .u64 4294967295) = some (.int .u64 (x % 4294967296)) := by
  simp [binV, intBin, wu64]
  rw [show (2:Int) ^ IntKind.u64.bits = 18446744073709551616 from rfl, show (4294967295 % 2 ^ IntKind.u64.bits : Nat) = 2 ^ 32 - 1 from rfl, Nat.and_two_pow_sub_one_eq_mod]
  omega
omit hE in
theorem binV_maskM {x : Int} : binV .and (.int .u64 (x % 18446744073709551616)) (.int .u64 4294967295) = some (.int .u64 (x % 18446744073709551616 % 4294967296)) := binV_mask (by omega)
omit hE in
theorem binV_shr32 {x : Int} : binV .shr (.int .u64 x) (.int .u64 32) = some (.int .u64 (x / 4294967296)) := by
  simp [binV, IntKind.bits]
  rw [Int.fdiv_eq_ediv_of_nonneg _ (by decide)]
theorem neg67 {h : List O} {x y : Int} : DR E 67 [.int .i64 x, .int .i64 y] ⟨h, h.length⟩ (.ret (.bool (decide (x * y < 0)))) ⟨h, h.length⟩ := by
  refine hE.fn (body := rb67) rfl (by decide) ?_
  unfold rb67
  by_cases c1 : x = 0
  · simp [c1]
  by_cases c2 : y = 0
  · simp [c1, c2]
  simp [c1, c2]
  rcases Int.lt_or_lt_of_ne c1 with h1 | h1 <;> rcases Int.lt_or_lt_of_ne c2 with h2 | h2
  · have := Int.mul_pos_of_neg_of_neg h1 h2
    simp [h1, h2, show ¬ x * y < 0 by omega]
  · have := Int.mul_neg_of_neg_of_pos h1 h2
    simp [h1, show ¬ y < 0 by omega, this]
  · have := Int.mul_neg_of_pos_of_neg h1 h2
    simp [h2, show ¬ x < 0 by omega, this]
  · have := Int.mul_pos h1 h2
    simp [show ¬ y < 0 by omega, show ¬ x < 0 by omega, show ¬ x * y < 0 by omega]

theorem mul66 {h : List O} {x y : Int} (hx : 0 ≤ x ∧ x < 18446744073709551616) (hy : 0 ≤ y ∧ y < 18446744073709551616) :
    DR E 66 [.int .u64 x, .int .u64 y] ⟨h, h.length⟩ (.ret (.tuple #[.int .u64 (x * y / 18446744073709551616), .int .u64 (x * y % 18446744073709551616)])) ⟨h, h.length⟩ := by
  refine hE.fn (body := rb66) rfl (by decide) ?_
  unfold rb66
  have ex : x = 4294967296 * (x / 4294967296) + x % 4294967296 := by omega
  have ey : y = 4294967296 * (y / 4294967296) + y % 4294967296 := by omega
  generalize hx0 : x % 4294967296 = x0 at ex
  generalize hx1 : x / 4294967296 = x1 at ex
  generalize hy0 : y % 4294967296 = y0 at ey
  generalize hy1 : y / 4294967296 = y1 at ey
  have bx0 : 0 ≤ x0 ∧ x0 ≤ 4294967295 := by omega
  have bx1 : 0 ≤ x1 ∧ x1 ≤ 4294967295 := by omega
  have by0 : 0 ≤ y0 ∧ y0 ≤ 4294967295 := by omega
  have by1 : 0 ≤ y1 ∧ y1 ≤ 4294967295 := by omega
  have p00 := mul_bound (x := x0) (y := y0) (a := 4294967295) (b := 4294967295) (by omega) (by omega)
  have p01 := mul_bound (x := x0) (y := y1) (a := 4294967295) (b := 4294967295) (by omega) (by omega)
  have p10 := mul_bound (x := x1) (y := y0) (a := 4294967295) (b := 4294967295) (by omega) (by omega)
  have p11 := mul_bound (x := x1) (y := y1) (a := 4294967295) (b := 4294967295) (by omega) (by omega)
  have n00 := Int.mul_nonneg bx0.1 by0.1
  have n01 := Int.mul_nonneg bx0.1 by1.1
  have n10 := Int.mul_nonneg bx1.1 by0.1
  have n11 := Int.mul_nonneg bx1.1 by1.1
  have key : x * y = 18446744073709551616 * (x1 * y1) + 4294967296 * (x1 * y0) + 4294967296 * (x0 * y1) + x0 * y0 := by
    rw [ex, ey, Int.add_mul, Int.mul_add, Int.mul_add, Int.mul_assoc 4294967296 x1, Int.mul_left_comm x1 4294967296 y1, Int.mul_assoc 4294967296 x1, Int.mul_left_comm x0 4294967296 y1]
    omega
  simp [binV_mask hx, binV_mask hy, binV_maskM, binV_shr32, hx0, hx1, hy0, hy1, wu64, back, Out.scalar, scalar, flat1, flat]
  rw [key]
  generalize x1 * y1 = q11 at *
  generalize x1 * y0 = q10 at *
  generalize x0 * y1 = q01 at *
  generalize x0 * y0 = q00 at *
  omega

theorem same50 {h : List O} {a b c d : Int} (ha : -1000000000000000000 ≤ a ∧ a ≤ 1000000000000000000) (hb : -1000000000000000000 ≤ b ∧ b ≤ 1000000000000000000) (hc : -1000000000000000000 ≤ c ∧ c ≤ 1000000000000000000) (hd : -1000000000000000000 ≤ d ∧ d ≤ 1000000000000000000) :
    DR E 50 [.int .i64 a, .int .i64 b, .int .i64 c, .int .i64 d] ⟨h, h.length⟩ (.ret (.bool (decide (a * b = c * d)))) ⟨h, h.length⟩ := by
  refine hE.fn (body := rb50) rfl (by decide) ?_
  unfold rb50
  have la := abs46 hE (h := h) (x := a) (by omega)
  have lb := abs46 hE (h := h) (x := b) (by omega)
  have lc := abs46 hE (h := h) (x := c) (by omega)
  have ld := abs46 hE (h := h) (x := d) (by omega)
  have ma := mul66 hE (h := h) (x := a.natAbs) (y := b.natAbs) (by omega) (by omega)
  have mc := mul66 hE (h := h) (x := c.natAbs) (y := d.natAbs) (by omega) (by omega)
  have na := neg67 hE (h := h) (x := a) (y := b)
  have nc := neg67 hE (h := h) (x := c) (y := d)
  have wa : (a.natAbs : Int) % 18446744073709551616 = a.natAbs := by omega
  have wb : (b.natAbs : Int) % 18446744073709551616 = b.natAbs := by omega
  have wc : (c.natAbs : Int) % 18446744073709551616 = c.natAbs := by omega
  have wd : (d.natAbs : Int) % 18446744073709551616 = d.natAbs := by omega
  have eab : (a.natAbs : Int) * b.natAbs = (a * b).natAbs := by rw [Int.natAbs_mul]; simp
  have ecd : (c.natAbs : Int) * d.natAbs = (c * d).natAbs := by rw [Int.natAbs_mul]; simp
  rw [eab] at ma
  rw [ecd] at mc
  generalize hp : a * b = p at *
  generalize hq : c * d = q at *
  by_cases c1 : (p.natAbs : Int) / 18446744073709551616 = q.natAbs / 18446744073709551616
  · by_cases c2 : (p.natAbs : Int) % 18446744073709551616 = q.natAbs % 18446744073709551616
    · have e : p.natAbs = q.natAbs := by omega
      simp [DC_of la, DC_of lb, DC_of lc, DC_of ld, wu64, wa, wb, wc, wd, DC_of ma, DC_of mc, DC_of na, DC_of nc, e]
      by_cases h1 : p < 0 <;> by_cases h2 : q < 0 <;> simp [h1, h2] <;> omega
    · have hne : ¬ p = q := fun h => c2 (by rw [h])
      simp [DC_of la, DC_of lb, DC_of lc, DC_of ld, wu64, wa, wb, wc, wd, DC_of ma, DC_of mc, DC_of na, DC_of nc, c1, c2, hne]
  · have hne : ¬ p = q := fun h => c1 (by rw [h])
    simp [DC_of la, DC_of lb, DC_of lc, DC_of ld, wu64, wa, wb, wc, wd, DC_of ma, DC_of mc, DC_of na, DC_of nc, c1, hne]
end Go.Proofs.Ytdbkhecnkhjhpaa
/- What the reference's Verify returns. -/
namespace Go.Proofs.Ytdbkhecnkhjhpaa
open Go Go.Ai
set_option linter.unusedSimpArgs false
set_option linter.unusedVariables false
attribute [local instance] Classical.propDecidable
variable {E : Env} (hE : LpE E)

/-- A result in memory. -/
structure ResAt (h : List O) (v : Value) (kind : Int) (X : List Int) (xd : Int) (Y : List Int) (yd : Int) (R : List Int) : Prop where
  out : ∃ vX vY vR, v = .agg #[.int .i64 kind, vX, .int .i64 xd, vY, .int .i64 yd, vR] ∧ Ints h vX X ∧ Ints h vY Y ∧ Ints h vR R ∧ I64 kind ∧ I64 xd ∧ I64 yd
theorem ResAt.ext {h h' : List O} {v : Value} {kind xd yd : Int} {X Y R : List Int} (hp : ResAt h v kind X xd Y yd R) (k : Ext h h') : ResAt h' v kind X xd Y yd R := by
  obtain ⟨vX, vY, vR, h1, h2, h3, h4, h5⟩ := hp.out
  exact ⟨vX, vY, vR, h1, h2.ext k, h3.ext k, h4.ext k, h5⟩

abbrev Sm (x : Int) : Prop := -1073741824 ≤ x ∧ x ≤ 1073741824
def Opt (A : List (List Int)) (B C X : List Int) (xd : Int) (Y : List Int) (yd : Int) (R : List Int) : Prop :=
  IsSol A B C X xd ∧ 1 ≤ yd ∧ Y.length = B.length ∧ R.length = 0 ∧ (∀ j, j < C.length → dotZ Y (colL A j) A.length ≤ yd * nth C j) ∧ dotZ C X C.length * yd = dotZ B Y B.length * xd
def Emp (A : List (List Int)) (B C X : List Int) (xd : Int) (Y : List Int) (yd : Int) (R : List Int) : Prop :=
  X.length = 0 ∧ xd = 0 ∧ yd = 0 ∧ R.length = 0 ∧ Y.length = B.length ∧ (∀ j, j < C.length → 0 ≤ dotZ Y (colL A j) A.length) ∧ dotZ B Y B.length < 0
def Unb (A : List (List Int)) (B C X : List Int) (xd : Int) (Y : List Int) (yd : Int) (R : List Int) : Prop :=
  IsSol A B C X xd ∧ Y.length = 0 ∧ yd = 0 ∧ R.length = C.length ∧ Pos R ∧ (∀ i, i < A.length → dotZ (nthR A i) R C.length = 0) ∧ dotZ C R C.length < 0
def Bnd (X : List Int) (xd : Int) (Y : List Int) (yd : Int) (R : List Int) : Prop :=
  Within X 1073741824 ∧ Within Y 1073741824 ∧ Within R 1073741824 ∧ Sm xd ∧ Sm yd
def Right (A : List (List Int)) (B C : List Int) (kind : Int) (X : List Int) (xd : Int) (Y : List Int) (yd : Int) (R : List Int) : Prop :=
  Bnd X xd Y yd R ∧ (kind = 1 ∧ Opt A B C X xd Y yd R ∨ kind = 2 ∧ Emp A B C X xd Y yd R ∨ kind = 3 ∧ Unb A B C X xd Y yd R)

theorem boxLp {h h' : List O} {v : Value} {p : Nat} {cs : List Value} {A : List (List Int)} {B C : List Int} (hb : Boxed h' p cs) (hcs : cs = v.cells.toList) (hp : LpAt h' v A B C) :
    ∃ vA vB vC, v = .agg #[vA, vB, vC] ∧ rd h' p 0 = some vA ∧ rd h' p 1 = some vB ∧ rd h' p 2 = some vC ∧ rdN h' p 0 3 = some [vA, vB, vC] ∧ Mat h' vA A ∧ Ints h' vB B ∧ Ints h' vC C := by
  obtain ⟨vA, vB, vC, rfl, h2, h3, h4⟩ := hp.out
  subst hcs
  exact ⟨vA, vB, vC, rfl, by rw [hb.rd]; rfl, by rw [hb.rd]; rfl, by rw [hb.rd]; rfl, by rw [hb.rdN]; rfl, h2, h3, h4⟩
theorem boxRes {h' : List O} {v : Value} {p : Nat} {cs : List Value} {kind xd yd : Int} {X Y R : List Int} (hb : Boxed h' p cs) (hcs : cs = v.cells.toList) (hp : ResAt h' v kind X xd Y yd R) :
    ∃ vX vY vR, v = .agg #[.int .i64 kind, vX, .int .i64 xd, vY, .int .i64 yd, vR] ∧ rd h' p 0 = some (.int .i64 kind) ∧ rd h' p 1 = some vX ∧ rd h' p 2 = some (.int .i64 xd) ∧ rd h' p 3 = some vY ∧ rd h' p 4 = some (.int .i64 yd) ∧ rd h' p 5 = some vR ∧
      rdN h' p 0 6 = some [.int .i64 kind, vX, .int .i64 xd, vY, .int .i64 yd, vR] ∧ Ints h' vX X ∧ Ints h' vY Y ∧ Ints h' vR R ∧ I64 kind ∧ I64 xd ∧ I64 yd := by
  obtain ⟨vX, vY, vR, rfl, h2, h3, h4, h5⟩ := hp.out
  subst hcs
  exact ⟨vX, vY, vR, rfl, by rw [hb.rd]; rfl, by rw [hb.rd]; rfl, by rw [hb.rd]; rfl, by rw [hb.rd]; rfl, by rw [hb.rd]; rfl, by rw [hb.rd]; rfl, by rw [hb.rdN]; rfl, h2, h3, h4, h5⟩
theorem Valid.rect {A : List (List Int)} {B C : List Int} (hv : Valid A B C) : Rect A C.length := fun i hi => (hv.2.2.2.2.2.2 i hi).1
theorem Valid.col {A : List (List Int)} {B C : List Int} (hv : Valid A B C) (j : Nat) : Within (colL A j) 1000000 := fun i hi => by
  simp at hi
  rw [nth_colL hi]
  exact (hv.2.2.2.2.2.2 i hi).2.all (by omega) j

include hE
theorem times53 {h : List O} {a b : Int} (ha : -100000000000000000 ≤ a ∧ a ≤ 100000000000000000) (hb : Sm b) :
    DR E 53 [.int .i64 a, .int .i64 b] ⟨h, h.length⟩ (.ret (.agg #[.int .i64 (a * b / 1073741824), .int .i64 (a * b % 1073741824)])) ⟨h, h.length⟩ := by
  refine hE.fn (body := rb53) rfl (by decide) ?_
  unfold rb53
  have e0 : a = 1073741824 * a.tdiv 1073741824 + a.tmod 1073741824 := by have := Int.mul_tdiv_add_tmod a 1073741824; omega
  have tc := tdiv_cases a 1073741824
  have b1 : -1073741823 ≤ a.tmod 1073741824 ∧ a.tmod 1073741824 ≤ 1073741823 := by omega
  have b2 : -93132258 ≤ a.tdiv 1073741824 ∧ a.tdiv 1073741824 ≤ 93132258 := by omega
  have m1 := mul_bound (a := 1073741823) (b := 1073741824) b1 hb
  have m2 := mul_bound (a := 93132258) (b := 1073741824) b2 hb
  have key : a * b = 1073741824 * (a.tdiv 1073741824 * b) + a.tmod 1073741824 * b := by
    conv => lhs; rw [e0]
    rw [Int.add_mul, Int.mul_assoc]
  rw [key]
  have hmod : a.tmod 1073741824 * b = a.tmod 1073741824 * b := rfl
  generalize hlo : a.tmod 1073741824 * b = lo at *
  generalize hhi : a.tdiv 1073741824 * b = hi at *
  have w1 : IntKind.i64.wrap lo = lo := w64_id (by omega) (by omega)
  have w2 : IntKind.i64.wrap hi = hi := w64_id (by omega) (by omega)
  have tl := tdiv_cases lo 1073741824
  have w3 : IntKind.i64.wrap (a.tdiv 1073741824) = a.tdiv 1073741824 := w64_id (by omega) (by omega)
  have w4 : IntKind.i64.wrap (lo.tdiv 1073741824) = lo.tdiv 1073741824 := w64_id (by omega) (by omega)
  have w5 : IntKind.i64.wrap (hi + lo.tdiv 1073741824) = hi + lo.tdiv 1073741824 := w64_id (by omega) (by omega)
  have w6 : IntKind.i64.wrap (hi + lo.tdiv 1073741824 - 1) = hi + lo.tdiv 1073741824 - 1 := w64_id (by omega) (by omega)
  have w7 : IntKind.i64.wrap (lo.tmod 1073741824 + 1073741824) = lo.tmod 1073741824 + 1073741824 := w64_id (by omega) (by omega)
  by_cases c1 : lo.tmod 1073741824 < 0
  · simp [binV_rem, binV_quo, hlo, hhi, w1, w2, w3, w4, w5, w6, w7, c1, back, Out.scalar, scalar, flat1, flat]
    omega
  · simp [binV_rem, binV_quo, hlo, hhi, w1, w2, w3, w4, w5, w6, w7, c1, back, Out.scalar, scalar, flat1, flat]
    omega

theorem optimal34 {h : List O} {v w : Value} {A : List (List Int)} {B C X Y R : List Int} {kind xd yd : Int} (hp : LpAt h v A B C) (hr : ResAt h w kind X xd Y yd R) (hv : Valid A B C) (hbd : Bnd X xd Y yd R) :
    DR E 34 [v, w] ⟨h, h.length⟩ (.ret (.bool (decide (Opt A B C X xd Y yd R)))) ⟨h, h.length⟩ := by
  refine hE.fn (body := rb34) rfl (by decide) ?_
  unfold rb34
  rw [DW_seq, DW_ops]
  refine DL_boxed fun h1 p hx1 hlen1 hp1 hb1 => DL_boxed fun h' q hx2 hlen2 hq hb2 => ?_
  simp at hb1 hb2
  replace hp := (hp.ext hx1).ext hx2
  replace hr := (hr.ext hx1).ext hx2
  have hp0 := hp
  obtain ⟨vA, vB, vC, rfl, r0, r1, r2, rN, hA, hB, hC⟩ := boxLp (h := h) (hb1.ext hx2) rfl hp
  obtain ⟨vX, vY, vR, rfl, s0, s1, s2, s3, s4, s5, sN, hX, hY, hR, k1, k2, k3⟩ := boxRes hb2 rfl hr
  obtain ⟨b1, b2, b3, b4, b5⟩ := hbd
  have ls := isSolution40 hE hp0 hX hv b1 b4
  have inv : ∀ {P : Prop}, (Opt A B C X xd Y yd R → P) → ¬ P → ¬ Opt A B C X xd Y yd R := fun h k v => k (h v)
  have hY0 := hY
  have hX0 := hX
  have hB0 := hB
  have hC0 := hC
  obtain ⟨aY, bY, oY, cY, rfl, hY2, hY3, hY4, hY5⟩ := hY
  obtain ⟨aR, bR, oR, cR, rfl, hR2, hR3, hR4, hR5⟩ := hR
  obtain ⟨aB, bB, oB, cB, rfl, hB2, hB3, hB4, hB5⟩ := hB
  obtain ⟨aC, bC, oC, cC, rfl, hC2, hC3, hC4, hC5⟩ := hC
  have v1 := hv.1
  have v2 := hv.2.1
  have v4 := hv.2.2.2.1
  by_cases c1 : ¬ IsSol A B C X xd
  · have hv := inv (fun v => v.1) c1
    simp [r0, r1, r2, rN, s1, s2, s3, s4, s5, DC_of ls, c1, hv]
  replace c1 := Classical.not_not.1 c1
  by_cases c2 : yd < 1
  · have hv := inv (fun v => v.2.1) (by omega)
    simp [r0, r1, r2, rN, s1, s2, s3, s4, s5, DC_of ls, c1, c2, hv]
  by_cases c3 : ¬ Y.length = B.length
  · have hv := inv (fun v => v.2.2.1) c3
    simp [r0, r1, r2, rN, s1, s2, s3, s4, s5, DC_of ls, c1, c2, c3, hv]
  have c3' := Classical.not_not.1 c3
  replace c3 := eq_true (Classical.not_not.1 c3)
  by_cases c4 : ¬ R.length = 0
  · have hv := inv (fun v => v.2.2.2.1) c4
    simp [r0, r1, r2, rN, s1, s2, s3, s4, s5, DC_of ls, c1, c2, c3, show 0 < R.length by omega, hv]
  replace c4 := Classical.not_not.1 c4
  simp [r0, r1, r2, rN, s1, s2, s3, s4, s5, DC_of ls, c1, c2, c3, show ¬ 0 < R.length by omega]
  refine DW_loop (fun k fr st => ∃ i : Nat, i + k = C.length ∧ st = ⟨h', h.length⟩ ∧ get fr 2 = .pointer (some ⟨p, 0, none⟩) ∧ get fr 3 = .pointer (some ⟨q, 0, none⟩) ∧ get fr 5 = .int .i64 i ∧ ∀ j, j < i → dotZ Y (colL A j) A.length ≤ yd * nth C j) ?_ (k := C.length) ?_
  · rintro k fr st ⟨i, hi, rfl, g2, g3, g5, hall⟩
    by_cases hlt : i < C.length
    · obtain rfl := hC2 (by omega)
      have lc := column52 hE hp0 hY0 hv.rect (by omega) hlt
      have t1 := dot_small' (n := A.length) b2 (hv.col i) v1
      have t2 := hv.2.2.2.2.2.1 i hlt
      have t3 := mul_bound (a := 1073741824) (b := 1000000) b5 t2
      have t4 : IntKind.i64.wrap (dotZ Y (colL A i) A.length) = dotZ Y (colL A i) A.length := w64_id (by omega) (by omega)
      have t5 : IntKind.i64.wrap (yd * nth C i) = yd * nth C i := w64_id (by omega) (by omega)
      rw [t4] at lc
      by_cases c5 : yd * nth C i < dotZ Y (colL A i) A.length
      · have hv := inv (fun v => v.2.2.2.2.1 i hlt) (by omega)
        simp [g2, g3, g5, hlt, r2, rN, s3, s4, DC_of lc, hC3 i hlt, t5, c5, hv]
      · simp [g2, g3, g5, hlt, r2, rN, s3, s4, DC_of lc, hC3 i hlt, t5, c5]
        refine ⟨k - 1, by omega, i + 1, by omega, by rw [w64_id] <;> omega, fun j hj => ?_⟩
        rcases Nat.lt_succ_iff_lt_or_eq.1 hj with hj | rfl
        · exact hall j hj
        · omega
    · have : i = C.length := by omega
      subst this
      have hXl := c1.2.1
      have l1 := dot30 hE hC0 hX0 (by omega)
      have l2 := dot30 hE hB0 hY0 (by omega)
      have t1 := dot_small (n := C.length) hv.2.2.2.2.2.1 b1 v4
      have t2 := dot_small (n := B.length) hv.2.2.2.2.1 b2 (by omega)
      rw [show IntKind.i64.wrap (dotZ C X C.length) = dotZ C X C.length from w64_id (by omega) (by omega)] at l1
      rw [show IntKind.i64.wrap (dotZ B Y B.length) = dotZ B Y B.length from w64_id (by omega) (by omega)] at l2
      have l3 := times53 hE (h := h') (a := dotZ C X C.length) (b := yd) (by omega) b5
      have l4 := times53 hE (h := h') (a := dotZ B Y B.length) (b := xd) (by omega) b4
      simp [g2, g3, g5, r2, r1, s1, s2, s3, s4, DC_of l1, DC_of l2, DC_of l3, DC_of l4, keyCells, fitsAll, fits, eqCells, eqCell]
      have e : Opt A B C X xd Y yd R ↔ dotZ C X C.length * yd = dotZ B Y B.length * xd :=
        ⟨fun h => h.2.2.2.2.2, fun h => ⟨c1, by omega, c3', c4, hall, h⟩⟩
      rw [show decide (Opt A B C X xd Y yd R) = decide (dotZ C X C.length * yd = dotZ B Y B.length * xd) from decide_eq_decide.2 e]
      generalize dotZ C X C.length * yd = P
      generalize dotZ B Y B.length * xd = Q
      by_cases hpq : P = Q
      · simp [hpq]
      · simp [hpq]
        omega
  · exact ⟨0, by simp⟩

theorem empty35 {h : List O} {v w : Value} {A : List (List Int)} {B C X Y R : List Int} {kind xd yd : Int} (hp : LpAt h v A B C) (hr : ResAt h w kind X xd Y yd R) (hv : Valid A B C) (hbd : Bnd X xd Y yd R) :
    DR E 35 [v, w] ⟨h, h.length⟩ (.ret (.bool (decide (Emp A B C X xd Y yd R)))) ⟨h, h.length⟩ := by
  refine hE.fn (body := rb35) rfl (by decide) ?_
  unfold rb35
  rw [DW_seq, DW_ops]
  refine DL_boxed fun h1 p hx1 hlen1 hp1 hb1 => DL_boxed fun h' q hx2 hlen2 hq hb2 => ?_
  simp at hb1 hb2
  replace hp := (hp.ext hx1).ext hx2
  replace hr := (hr.ext hx1).ext hx2
  have hp0 := hp
  obtain ⟨vA, vB, vC, rfl, r0, r1, r2, rN, hA, hB, hC⟩ := boxLp (h := h) (hb1.ext hx2) rfl hp
  obtain ⟨vX, vY, vR, rfl, s0, s1, s2, s3, s4, s5, sN, hX, hY, hR, k1, k2, k3⟩ := boxRes hb2 rfl hr
  obtain ⟨b1, b2, b3, b4, b5⟩ := hbd
  have inv : ∀ {P : Prop}, (Emp A B C X xd Y yd R → P) → ¬ P → ¬ Emp A B C X xd Y yd R := fun h k v => k (h v)
  have hY0 := hY
  have hB0 := hB
  obtain ⟨aX, bX, oX, cX, rfl, hX2, hX3, hX4, hX5⟩ := hX
  obtain ⟨aY, bY, oY, cY, rfl, hY2, hY3, hY4, hY5⟩ := hY
  obtain ⟨aR, bR, oR, cR, rfl, hR2, hR3, hR4, hR5⟩ := hR
  obtain ⟨aB, bB, oB, cB, rfl, hB2, hB3, hB4, hB5⟩ := hB
  obtain ⟨aC, bC, oC, cC, rfl, hC2, hC3, hC4, hC5⟩ := hC
  have v1 := hv.1
  have v2 := hv.2.1
  have v4 := hv.2.2.2.1
  by_cases c1 : ¬ X.length = 0
  · have hv := inv (fun v => v.1) c1
    simp [r0, r1, r2, rN, s1, s2, s3, s4, s5, show 0 < X.length by omega, hv]
  replace c1 := Classical.not_not.1 c1
  by_cases c2 : ¬ xd = 0
  · have hv := inv (fun v => v.2.1) c2
    simp [r0, r1, r2, rN, s1, s2, s3, s4, s5, show ¬ 0 < X.length by omega, c2, hv]
  replace c2 := eq_true (Classical.not_not.1 c2)
  by_cases c3 : ¬ yd = 0
  · have hv := inv (fun v => v.2.2.1) c3
    simp [r0, r1, r2, rN, s1, s2, s3, s4, s5, show ¬ 0 < X.length by omega, c2, c3, hv]
  replace c3 := eq_true (Classical.not_not.1 c3)
  by_cases c4 : ¬ R.length = 0
  · have hv := inv (fun v => v.2.2.2.1) c4
    simp [r0, r1, r2, rN, s1, s2, s3, s4, s5, show ¬ 0 < X.length by omega, c2, c3, show 0 < R.length by omega, hv]
  replace c4 := Classical.not_not.1 c4
  by_cases c5 : ¬ Y.length = B.length
  · have hv := inv (fun v => v.2.2.2.2.1) c5
    simp [r0, r1, r2, rN, s1, s2, s3, s4, s5, show ¬ 0 < X.length by omega, c2, c3, show ¬ 0 < R.length by omega, c5, hv]
  have c5' := Classical.not_not.1 c5
  replace c5 := eq_true (Classical.not_not.1 c5)
  simp [r0, r1, r2, rN, s1, s2, s3, s4, s5, show ¬ 0 < X.length by omega, c2, c3, show ¬ 0 < R.length by omega, c5]
  refine DW_loop (fun k fr st => ∃ i : Nat, i + k = C.length ∧ st = ⟨h', h.length⟩ ∧ get fr 2 = .pointer (some ⟨p, 0, none⟩) ∧ get fr 3 = .pointer (some ⟨q, 0, none⟩) ∧ get fr 5 = .int .i64 i ∧ ∀ j, j < i → 0 ≤ dotZ Y (colL A j) A.length) ?_ (k := C.length) ?_
  · rintro k fr st ⟨i, hi, rfl, g2, g3, g5, hall⟩
    by_cases hlt : i < C.length
    · obtain rfl := hC2 (by omega)
      have lc := column52 hE hp0 hY0 hv.rect (by omega) hlt
      have t1 := dot_small' (n := A.length) b2 (hv.col i) v1
      have t4 : IntKind.i64.wrap (dotZ Y (colL A i) A.length) = dotZ Y (colL A i) A.length := w64_id (by omega) (by omega)
      rw [t4] at lc
      by_cases c6 : dotZ Y (colL A i) A.length < 0
      · have hv := inv (fun v => v.2.2.2.2.2.1 i hlt) (by omega)
        simp [g2, g3, g5, hlt, r2, rN, s3, s4, DC_of lc, hC3 i hlt, c6, hv]
      · simp [g2, g3, g5, hlt, r2, rN, s3, s4, DC_of lc, hC3 i hlt, c6]
        refine ⟨k - 1, by omega, i + 1, by omega, by rw [w64_id] <;> omega, fun j hj => ?_⟩
        rcases Nat.lt_succ_iff_lt_or_eq.1 hj with hj | rfl
        · exact hall j hj
        · omega
    · have : i = C.length := by omega
      subst this
      have l2 := dot30 hE hB0 hY0 (by omega)
      have t2 := dot_small (n := B.length) hv.2.2.2.2.1 b2 (by omega)
      rw [show IntKind.i64.wrap (dotZ B Y B.length) = dotZ B Y B.length from w64_id (by omega) (by omega)] at l2
      have e : Emp A B C X xd Y yd R ↔ dotZ B Y B.length < 0 :=
        ⟨fun h => h.2.2.2.2.2.2, fun h => ⟨c1, of_eq_true c2, of_eq_true c3, c4, c5', hall, h⟩⟩
      simp [g2, g3, g5, r2, r1, s1, s2, s3, s4, DC_of l2, e]
  · exact ⟨0, by simp⟩

theorem unbounded36 {h : List O} {v w : Value} {A : List (List Int)} {B C X Y R : List Int} {kind xd yd : Int} (hp : LpAt h v A B C) (hr : ResAt h w kind X xd Y yd R) (hv : Valid A B C) (hbd : Bnd X xd Y yd R) :
    DR E 36 [v, w] ⟨h, h.length⟩ (.ret (.bool (decide (Unb A B C X xd Y yd R)))) ⟨h, h.length⟩ := by
  refine hE.fn (body := rb36) rfl (by decide) ?_
  unfold rb36
  rw [DW_seq, DW_ops]
  refine DL_boxed fun h1 p hx1 hlen1 hp1 hb1 => DL_boxed fun h' q hx2 hlen2 hq hb2 => ?_
  simp at hb1 hb2
  replace hp := (hp.ext hx1).ext hx2
  replace hr := (hr.ext hx1).ext hx2
  have hp0 := hp
  obtain ⟨vA, vB, vC, rfl, r0, r1, r2, rN, hA, hB, hC⟩ := boxLp (h := h) (hb1.ext hx2) rfl hp
  obtain ⟨vX, vY, vR, rfl, s0, s1, s2, s3, s4, s5, sN, hX, hY, hR, k1, k2, k3⟩ := boxRes hb2 rfl hr
  obtain ⟨b1, b2, b3, b4, b5⟩ := hbd
  have ls := isSolution40 hE hp0 hX hv b1 b4
  have lp := pos54 hE hR
  have inv : ∀ {P : Prop}, (Unb A B C X xd Y yd R → P) → ¬ P → ¬ Unb A B C X xd Y yd R := fun h k v => k (h v)
  have hR0 := hR
  have hC0 := hC
  obtain ⟨aY, bY, oY, cY, rfl, hY2, hY3, hY4, hY5⟩ := hY
  obtain ⟨aR, bR, oR, cR, rfl, hR2, hR3, hR4, hR5⟩ := hR
  obtain ⟨aA, bA, oA, cA, vs, rfl, hA2, hA3, hA4⟩ := hA
  obtain ⟨aC, bC, oC, cC, rfl, hC2, hC3, hC4, hC5⟩ := hC
  have v1 := hv.1
  have v2 := hv.2.1
  have v4 := hv.2.2.2.1
  by_cases c1 : ¬ IsSol A B C X xd
  · have hv := inv (fun v => v.1) c1
    simp [r0, r1, r2, rN, s1, s2, s3, s4, s5, DC_of ls, c1, hv]
  replace c1 := Classical.not_not.1 c1
  by_cases c2 : ¬ Y.length = 0
  · have hv := inv (fun v => v.2.1) c2
    simp [r0, r1, r2, rN, s1, s2, s3, s4, s5, DC_of ls, c1, show 0 < Y.length by omega, hv]
  replace c2 := Classical.not_not.1 c2
  by_cases c3 : ¬ yd = 0
  · have hv := inv (fun v => v.2.2.1) c3
    simp [r0, r1, r2, rN, s1, s2, s3, s4, s5, DC_of ls, c1, show ¬ 0 < Y.length by omega, c3, hv]
  replace c3 := eq_true (Classical.not_not.1 c3)
  by_cases c4 : ¬ R.length = C.length
  · have hv := inv (fun v => v.2.2.2.1) c4
    simp [r0, r1, r2, rN, s1, s2, s3, s4, s5, DC_of ls, c1, show ¬ 0 < Y.length by omega, c3, c4, hv]
  have c4' := Classical.not_not.1 c4
  replace c4 := eq_true (Classical.not_not.1 c4)
  by_cases c5 : ¬ Pos R
  · have hv := inv (fun v => v.2.2.2.2.1) c5
    simp [r0, r1, r2, rN, s1, s2, s3, s4, s5, DC_of ls, DC_of lp, c1, show ¬ 0 < Y.length by omega, c3, c4, c5, hv]
  replace c5 := Classical.not_not.1 c5
  simp [r0, r1, r2, rN, s1, s2, s3, s4, s5, DC_of ls, DC_of lp, c1, show ¬ 0 < Y.length by omega, c3, c4, c5]
  refine DW_loop (fun k fr st => ∃ i : Nat, i + k = A.length ∧ st = ⟨h', h.length⟩ ∧ get fr 2 = .pointer (some ⟨p, 0, none⟩) ∧ get fr 3 = .pointer (some ⟨q, 0, none⟩) ∧ get fr 5 = .int .i64 i ∧ ∀ j, j < i → dotZ (nthR A j) R C.length = 0) ?_ (k := A.length) ?_
  · rintro k fr st ⟨i, hi, rfl, g2, g3, g5, hall⟩
    by_cases hlt : i < A.length
    · have eA := hA2 (by omega)
      obtain ⟨hr, hI⟩ := hA3 i hlt
      obtain ⟨q1, q2⟩ := hv.2.2.2.2.2.2 i hlt
      have ld := dot30 hE hI hR0 (by omega)
      have t1 := dot_small (n := (nthR A i).length) q2 b3 (by omega)
      rw [show IntKind.i64.wrap (dotZ (nthR A i) R (nthR A i).length) = dotZ (nthR A i) R (nthR A i).length from w64_id (by omega) (by omega), q1] at ld
      by_cases c6 : dotZ (nthR A i) R C.length = 0
      · simp [g2, g3, g5, hlt, r0, eA, hr, s5, DC_of ld, c6]
        refine ⟨k - 1, by omega, i + 1, by omega, by rw [w64_id] <;> omega, fun j hj => ?_⟩
        rcases Nat.lt_succ_iff_lt_or_eq.1 hj with hj | rfl
        · exact hall j hj
        · exact c6
      · have hv := inv (fun v => v.2.2.2.2.2.1 i hlt) c6
        simp [g2, g3, g5, hlt, r0, eA, hr, s5, DC_of ld, c6, hv]
    · have : i = A.length := by omega
      subst this
      have l2 := dot30 hE hC0 hR0 (by omega)
      have t2 := dot_small (n := C.length) hv.2.2.2.2.2.1 b3 v4
      rw [show IntKind.i64.wrap (dotZ C R C.length) = dotZ C R C.length from w64_id (by omega) (by omega)] at l2
      have e : Unb A B C X xd Y yd R ↔ dotZ C R C.length < 0 :=
        ⟨fun h => h.2.2.2.2.2.2, fun h => ⟨c1, c2, of_eq_true c3, c4', c5, hall, h⟩⟩
      simp [g2, g3, g5, r0, r1, r2, s5, DC_of l2, e]
  · exact ⟨0, by simp⟩

omit hE in
theorem ints2 {h : List O} {x y : Int} {el : TypeId} {own : Option Nat} (hx : I64 x) (hy : I64 y) : Ints (h ++ [.cells [.int .i64 x, .int .i64 y] el own]) (.slice (some ⟨h.length, 0, none⟩) 2 2) [x, y] := by
  refine ⟨some ⟨h.length, 0, none⟩, h.length, 0, 2, rfl, fun _ => rfl, fun i hi => ?_, fun i => ?_, by simp⟩
  · match i, hi with
    | 0, _ => simp [nth]
    | 1, _ => simp [nth]
  · match i with
    | 0 => exact hx
    | 1 => exact hy
    | n + 2 => simp [nth, I64]
theorem verify14 {h : List O} {v w : Value} {A : List (List Int)} {B C X Y R : List Int} {kind xd yd : Int} (hp : LpAt h v A B C) (hr : ResAt h w kind X xd Y yd R) :
    DR E 14 [v, w] ⟨h, h.length⟩ (.ret (.int .i64 (if Valid A B C then if Right A B C kind X xd Y yd R then 0 else 5 else 120))) ⟨h, h.length⟩ := by
  refine hE.fn (body := rb14) rfl (by decide) ?_
  unfold rb14
  rw [DW_seq, DW_ops]
  refine DL_boxed fun h1 p hx1 hlen1 hp1 hb1 => DL_boxed fun h' q hx2 hlen2 hq hb2 => ?_
  simp at hb1 hb2
  replace hp := (hp.ext hx1).ext hx2
  replace hr := (hr.ext hx1).ext hx2
  have hp0 := hp
  have hr0 := hr
  obtain ⟨vA, vB, vC, rfl, r0, r1, r2, rN, hA, hB, hC⟩ := boxLp (h := h) (hb1.ext hx2) rfl hp
  obtain ⟨vX, vY, vR, rfl, s0, s1, s2, s3, s4, s5, sN, hX, hY, hR, k1, k2, k3⟩ := boxRes hb2 rfl hr
  have l15 := check15 hE hp0
  by_cases c0 : ¬ Valid A B C
  · simp [rN, DC_of l15, c0]
  replace c0 := Classical.not_not.1 c0
  have inv : ∀ {P : Prop}, (Right A B C kind X xd Y yd R → P) → ¬ P → ¬ Right A B C kind X xd Y yd R := fun h k v => k (h v)
  have lX := within33 hE hX (m := 1073741824) (by decide)
  have lY := within33 hE hY (m := 1073741824) (by decide)
  have lR := within33 hE hR (m := 1073741824) (by decide)
  have l2 := within33 hE (h := h' ++ [.cells [.int .i64 xd, .int .i64 yd] 3 (some 0)]) (ints2 k2 k3) (m := 1073741824) (by decide)
  have e2 : Within [xd, yd] 1073741824 ↔ Sm xd ∧ Sm yd := by
    constructor
    · intro h; exact ⟨h 0 (by simp), h 1 (by simp)⟩
    · rintro ⟨h1, h2⟩ i hi
      match i, hi with
      | 0, _ => exact h1
      | 1, _ => exact h2
  by_cases c1 : ¬ Within X 1073741824
  · have hv := inv (fun v => v.1.1) c1
    simp [rN, DC_of l15, c0, s1, DC_of lX, c1, hv]
  replace c1 := Classical.not_not.1 c1
  by_cases c2 : ¬ Within Y 1073741824
  · have hv := inv (fun v => v.1.2.1) c2
    simp [rN, DC_of l15, c0, s1, s3, DC_of lX, DC_of lY, c1, c2, hv]
  replace c2 := Classical.not_not.1 c2
  by_cases c3 : ¬ Within R 1073741824
  · have hv := inv (fun v => v.1.2.2.1) c3
    simp [rN, DC_of l15, c0, s1, s3, s5, DC_of lX, DC_of lY, DC_of lR, c1, c2, c3, hv]
  replace c3 := Classical.not_not.1 c3
  have hx3 : Ext h' (h' ++ [.cells [.int .i64 xd, .int .i64 yd] 3 (some 0)]) := Ext.snoc _ _
  by_cases c4 : ¬ (Sm xd ∧ Sm yd)
  · have hv := inv (fun v => v.1.2.2.2) c4
    have c4' : ¬ Within [xd, yd] 1073741824 := fun h => c4 (e2.1 h)
    simp [rN, DC_of l15, c0, s1, s2, s3, s4, s5, DC_of lX, DC_of lY, DC_of lR, c1, c2, c3, -List.length_append, DC_of l2, c4', hv]
  replace c4 := Classical.not_not.1 c4
  have c4' : Within [xd, yd] 1073741824 := e2.2 c4
  have hbd : Bnd X xd Y yd R := ⟨c1, c2, c3, c4⟩
  have hp3 := hp0.ext hx3
  have hr3 := hr0.ext hx3
  have x0 := hx3.rd s0
  have xN := hx3.rdN sN
  have yN := hx3.rdN rN
  have lo := optimal34 hE hp3 hr3 c0 hbd
  have le := empty35 hE hp3 hr3 c0 hbd
  have lu := unbounded36 hE hp3 hr3 c0 hbd
  have key : Right A B C kind X xd Y yd R ↔ (kind = 1 ∧ Opt A B C X xd Y yd R ∨ kind = 2 ∧ Emp A B C X xd Y yd R ∨ kind = 3 ∧ Unb A B C X xd Y yd R) := ⟨fun h => h.2, fun h => ⟨hbd, h⟩⟩
  by_cases d1 : kind = 1
  · by_cases d2 : Opt A B C X xd Y yd R
    · have hv : Right A B C kind X xd Y yd R := key.2 (.inl ⟨d1, d2⟩)
      replace d1 := eq_true d1
      simp [rN, DC_of l15, c0, s1, s2, s3, s4, s5, DC_of lX, DC_of lY, DC_of lR, c1, c2, c3, -List.length_append, DC_of l2, c4', x0, xN, yN, DC_of lo, d1, d2, hv]
    · have hv : ¬ Right A B C kind X xd Y yd R := fun h => by
        rcases key.1 h with ⟨_, h⟩ | ⟨h, _⟩ | ⟨h, _⟩
        · exact d2 h
        · omega
        · omega
      have d3 : (kind = 2) = False := eq_false (by omega)
      have d4 : (kind = 3) = False := eq_false (by omega)
      replace d1 := eq_true d1
      simp [rN, DC_of l15, c0, s1, s2, s3, s4, s5, DC_of lX, DC_of lY, DC_of lR, c1, c2, c3, -List.length_append, DC_of l2, c4', x0, xN, yN, DC_of lo, d1, d2, d3, d4, hv]
  by_cases d2 : kind = 2
  · by_cases d3 : Emp A B C X xd Y yd R
    · have hv : Right A B C kind X xd Y yd R := key.2 (.inr (.inl ⟨d2, d3⟩))
      replace d2 := eq_true d2
      simp [rN, DC_of l15, c0, s1, s2, s3, s4, s5, DC_of lX, DC_of lY, DC_of lR, c1, c2, c3, -List.length_append, DC_of l2, c4', x0, xN, yN, DC_of le, d1, d2, d3, hv]
    · have hv : ¬ Right A B C kind X xd Y yd R := fun h => by
        rcases key.1 h with ⟨h, _⟩ | ⟨_, h⟩ | ⟨h, _⟩
        · omega
        · exact d3 h
        · omega
      have d4 : (kind = 3) = False := eq_false (by omega)
      replace d2 := eq_true d2
      simp [rN, DC_of l15, c0, s1, s2, s3, s4, s5, DC_of lX, DC_of lY, DC_of lR, c1, c2, c3, -List.length_append, DC_of l2, c4', x0, xN, yN, DC_of le, d1, d2, d3, d4, hv]
  by_cases d3 : kind = 3
  · by_cases d4 : Unb A B C X xd Y yd R
    · have hv : Right A B C kind X xd Y yd R := key.2 (.inr (.inr ⟨d3, d4⟩))
      replace d3 := eq_true d3
      simp [rN, DC_of l15, c0, s1, s2, s3, s4, s5, DC_of lX, DC_of lY, DC_of lR, c1, c2, c3, -List.length_append, DC_of l2, c4', x0, xN, yN, DC_of lu, d1, d2, d3, d4, hv]
    · have hv : ¬ Right A B C kind X xd Y yd R := fun h => by
        rcases key.1 h with ⟨h, _⟩ | ⟨h, _⟩ | ⟨_, h⟩
        · omega
        · omega
        · exact d4 h
      replace d3 := eq_true d3
      simp [rN, DC_of l15, c0, s1, s2, s3, s4, s5, DC_of lX, DC_of lY, DC_of lR, c1, c2, c3, -List.length_append, DC_of l2, c4', x0, xN, yN, DC_of lu, d1, d2, d3, d4, hv]
  have hv : ¬ Right A B C kind X xd Y yd R := fun h => by
    rcases key.1 h with ⟨h, _⟩ | ⟨h, _⟩ | ⟨h, _⟩ <;> omega
  simp [rN, DC_of l15, c0, s1, s2, s3, s4, s5, DC_of lX, DC_of lY, DC_of lR, c1, c2, c3, -List.length_append, DC_of l2, c4', x0, xN, yN, d1, d2, d3, hv]
end Go.Proofs.Ytdbkhecnkhjhpaa
/- What the package's Verify returns. -/
namespace Go.Proofs.Ytdbkhecnkhjhpaa
open Go Go.Ai
set_option linter.unusedSimpArgs false
set_option linter.unusedVariables false
attribute [local instance] Classical.propDecidable
variable {E : Env} (hE : LpE E)
include hE

theorem big47 {h : List O} {v : Value} {xs : List Int} (hv : Ints h v xs) :
    DR E 43 [v, .func (.func 47) #[] #[]] ⟨h, h.length⟩ (.ret (.bool (decide (¬ Within xs 1073741824)))) ⟨h, h.length⟩ := by
  have l := contains43 hE (caps := []) hv fun x => c47 hE
  have e : (∃ i, i < xs.length ∧ decide (¬ (-1073741824 ≤ nth xs i ∧ nth xs i ≤ 1073741824)) = true) ↔ ¬ Within xs 1073741824 := by
    constructor
    · rintro ⟨i, h1, h2⟩ hw
      have := hw i h1
      simp at h2
      omega
    · intro hw
      refine Classical.byContradiction fun hn => hw fun i hi => Classical.byContradiction fun h => hn ⟨i, hi, ?_⟩
      simp only [decide_eq_true_eq]
      exact h
  rw [show decide (∃ i, i < xs.length ∧ decide (¬ (-1073741824 ≤ nth xs i ∧ nth xs i ≤ 1073741824)) = true) = decide (¬ Within xs 1073741824) from decide_eq_decide.2 e] at l
  exact l
theorem neg51 {h : List O} {v : Value} {xs : List Int} (hv : Ints h v xs) :
    DR E 43 [v, .func (.func 51) #[] #[]] ⟨h, h.length⟩ (.ret (.bool (decide (¬ Pos xs)))) ⟨h, h.length⟩ := by
  have l := contains43 hE (caps := []) hv fun x => c51 hE
  have e : (∃ i, i < xs.length ∧ decide (nth xs i < 0) = true) ↔ ¬ Pos xs := by
    simp only [decide_eq_true_eq, Pos]
    constructor
    · rintro ⟨i, h1, h2⟩ h3; have := h3 i h1; omega
    · intro h3; refine Classical.byContradiction fun hn => h3 fun i hi => Classical.byContradiction fun h => hn ⟨i, hi, by omega⟩
  rw [show decide (∃ i, i < xs.length ∧ decide (nth xs i < 0) = true) = decide (¬ Pos xs) from decide_eq_decide.2 e] at l
  exact l

theorem isRight32 {h : List O} {v w : Value} {A : List (List Int)} {B C X Y R : List Int} {kind xd yd : Int} (hp : LpAt h v A B C) (hr : ResAt h w kind X xd Y yd R) (hv : Valid A B C) :
    DR E 32 [v, w] ⟨h, h.length⟩ (.ret (.bool (decide (Right A B C kind X xd Y yd R)))) ⟨h, h.length⟩ := by
  refine hE.fn (body := rb32) rfl (by decide) ?_
  unfold rb32
  rw [DW_seq, DW_ops]
  refine DL_boxed fun h1 p hx1 hlen1 hp1 hb1 => DL_boxed fun h' q hx2 hlen2 hq hb2 => ?_
  simp at hb1 hb2
  replace hp := (hp.ext hx1).ext hx2
  replace hr := (hr.ext hx1).ext hx2
  have hp0 := hp
  have hr0 := hr
  obtain ⟨vA, vB, vC, rfl, r0, r1, r2, rN, hA, hB, hC⟩ := boxLp (h := h) (hb1.ext hx2) rfl hp
  obtain ⟨vX, vY, vR, rfl, s0, s1, s2, s3, s4, s5, sN, hX, hY, hR, k1, k2, k3⟩ := boxRes hb2 rfl hr
  have hX0 := hX
  have hY0 := hY
  have hR0 := hR
  have hB0 := hB
  have hC0 := hC
  obtain ⟨aX, bX, oX, cX, rfl, hX2, hX3, hX4, hX5⟩ := hX
  obtain ⟨aY, bY, oY, cY, rfl, hY2, hY3, hY4, hY5⟩ := hY
  obtain ⟨aR, bR, oR, cR, rfl, hR2, hR3, hR4, hR5⟩ := hR
  obtain ⟨aA, bA, oA, cA, vs, rfl, hA2, hA3, hA4⟩ := hA
  obtain ⟨aB, bB, oB, cB, rfl, hB2, hB3, hB4, hB5⟩ := hB
  obtain ⟨aC, bC, oC, cC, rfl, hC2, hC3, hC4, hC5⟩ := hC
  have v1 := hv.1
  have v2 := hv.2.1
  have v4 := hv.2.2.2.1
  have inv : ∀ {P : Prop}, (Right A B C kind X xd Y yd R → P) → ¬ P → ¬ Right A B C kind X xd Y yd R := fun h k v => k (h v)
  simp [s0, s1, s2, s3, s4, s5, -List.length_append, -List.append_assoc]
  have hx3 : Ext h' (h' ++ [.cells [.int .i64 xd, .int .i64 yd] 3 (some 0)]) := Ext.snoc _ _
  have i2 := ints2 (h := h') (el := 3) (own := some 0) k2 k3
  generalize e3 : h' ++ [.cells [.int .i64 xd, .int .i64 yd] 3 (some 0)] = h3 at *
  have hx4 : Ext h3 (h3 ++ [.cells [.slice aX X.length cX, .slice aY Y.length cY, .slice aR R.length cR, .slice (some ⟨h'.length, 0, none⟩) 2 2] 23 (some 0)]) := Ext.snoc _ _
  have b4 := Boxed.snoc h3 [.slice aX X.length cX, .slice aY Y.length cY, .slice aR R.length cR, .slice (some ⟨h'.length, 0, none⟩) 2 2] 23 (some 0)
  generalize e4 : h3 ++ [.cells [.slice aX X.length cX, .slice aY Y.length cY, .slice aR R.length cR, .slice (some ⟨h'.length, 0, none⟩) 2 2] 23 (some 0)] = h4 at *
  have hx : Ext h' h4 := hx3.trans hx4
  have t0 := b4.rd 0
  have t1 := b4.rd 1
  have t2 := b4.rd 2
  have t3 := b4.rd 3
  simp at t0 t1 t2 t3
  have lX := big47 hE (hX0.ext hx)
  have lY := big47 hE (hY0.ext hx)
  have lR := big47 hE (hR0.ext hx)
  have l2 := big47 hE (i2.ext hx4)
  have e2 : Within [xd, yd] 1073741824 ↔ Sm xd ∧ Sm yd := by
    constructor
    · intro h; exact ⟨h 0 (by simp), h 1 (by simp)⟩
    · rintro ⟨h1, h2⟩ i hi
      match i, hi with
      | 0, _ => exact h1
      | 1, _ => exact h2
  replace s0 := hx.rd s0
  replace s1 := hx.rd s1
  replace s2 := hx.rd s2
  replace s3 := hx.rd s3
  replace s4 := hx.rd s4
  replace s5 := hx.rd s5
  replace r0 := hx.rd r0
  replace r1 := hx.rd r1
  replace r2 := hx.rd r2
  replace rN := hx.rdN rN
  replace hp0 := hp0.ext hx
  replace hX0 := hX0.ext hx
  replace hY0 := hY0.ext hx
  replace hR0 := hR0.ext hx
  replace hB0 := hB0.ext hx
  replace hC0 := hC0.ext hx
  rw [DW_loop_unfold]
  by_cases c1 : ¬ Within X 1073741824
  · have hv := inv (fun v => v.1.1) c1
    simp [t0, DC_of lX, c1, hv]
  replace c1 := Classical.not_not.1 c1
  simp [t0, DC_of lX, c1]
  rw [DW_loop_unfold]
  by_cases c2 : ¬ Within Y 1073741824
  · have hv := inv (fun v => v.1.2.1) c2
    simp [t1, DC_of lY, c2, hv, w64_id]
  replace c2 := Classical.not_not.1 c2
  simp [t1, DC_of lY, c2, w64_id]
  rw [DW_loop_unfold]
  by_cases c3 : ¬ Within R 1073741824
  · have hv := inv (fun v => v.1.2.2.1) c3
    simp [t2, DC_of lR, c3, hv, w64_id]
  replace c3 := Classical.not_not.1 c3
  simp [t2, DC_of lR, c3, w64_id]
  rw [DW_loop_unfold]
  by_cases c4 : ¬ (Sm xd ∧ Sm yd)
  · have hv := inv (fun v => v.1.2.2.2) c4
    have c4' : ¬ Within [xd, yd] 1073741824 := fun h => c4 (e2.1 h)
    simp [t3, DC_of l2, c4', hv, w64_id]
  replace c4 := Classical.not_not.1 c4
  have c4' : Within [xd, yd] 1073741824 := e2.2 c4
  simp [t3, DC_of l2, c4', w64_id]
  rw [DW_loop_unfold]
  simp [w64_id]
  refine resQ_forget (fun fr => get fr 2 = .pointer (some ⟨p, 0, none⟩) ∧ get fr 3 = .pointer (some ⟨q, 0, none⟩)) ?_ (by simp)
  rintro fr ⟨g2, g3⟩
  have hbd : Bnd X xd Y yd R := ⟨c1, c2, c3, c4⟩
  have key : Right A B C kind X xd Y yd R ↔ (kind = 1 ∧ Opt A B C X xd Y yd R ∨ kind = 2 ∧ Emp A B C X xd Y yd R ∨ kind = 3 ∧ Unb A B C X xd Y yd R) := ⟨fun h => h.2, fun h => ⟨hbd, h⟩⟩
  have ls := isSolution48 hE hp0 hX0 hv c1 c4.1
  by_cases d1 : kind = 1
  · have key1 : Right A B C kind X xd Y yd R ↔ Opt A B C X xd Y yd R := by
      rw [key]
      constructor
      · rintro (⟨_, h⟩ | ⟨h, _⟩ | ⟨h, _⟩)
        · exact h
        · omega
        · omega
      · exact fun h => .inl ⟨d1, h⟩
    replace inv : ∀ {P : Prop}, (Opt A B C X xd Y yd R → P) → ¬ P → ¬ Right A B C kind X xd Y yd R := fun h k v => k (h (key1.1 v))
    replace d1 := eq_true d1
    by_cases f1 : ¬ R.length = 0
    · have hv := inv (fun v => v.2.2.2.1) f1
      simp [s0, s1, s2, s3, s4, s5, r0, r1, r2, g2, g3, d1, show 0 < R.length by omega, hv]
    by_cases f2 : yd < 1
    · have hv := inv (fun v => v.2.1) (by omega)
      simp [s0, s1, s2, s3, s4, s5, r0, r1, r2, g2, g3, d1, show ¬ 0 < R.length by omega, f2, hv]
    by_cases f3 : ¬ Y.length = B.length
    · have hv := inv (fun v => v.2.2.1) f3
      simp [s0, s1, s2, s3, s4, s5, r0, r1, r2, g2, g3, d1, show ¬ 0 < R.length by omega, f2, f3, hv]
    have f3' := Classical.not_not.1 f3
    replace f3 := eq_true (Classical.not_not.1 f3)
    by_cases f4 : ¬ IsSol A B C X xd
    · have hv := inv (fun v => v.1) f4
      simp [s0, s1, s2, s3, s4, s5, r0, r1, r2, rN, g2, g3, d1, show ¬ 0 < R.length by omega, f2, f3, DC_of ls, f4, hv]
    replace f4 := Classical.not_not.1 f4
    simp [s0, s1, s2, s3, s4, s5, r0, r1, r2, rN, g2, g3, d1, show ¬ 0 < R.length by omega, f2, f3, DC_of ls, f4]
    refine DW_loop (fun k fr st => ∃ i : Nat, i + k = C.length ∧ st.fl = h.length ∧ Ext h4 st.h ∧ get fr 2 = .pointer (some ⟨p, 0, none⟩) ∧ get fr 3 = .pointer (some ⟨q, 0, none⟩) ∧ get fr 64 = .slice aC C.length cC ∧ get fr 65 = .int .i64 C.length ∧ get fr 66 = .int .i64 i ∧ ∀ j, j < i → dotZ Y (colL A j) A.length ≤ yd * nth C j) ?_ (k := C.length) ?_
    · rintro k fr ⟨H, f⟩ ⟨i, hi, hf, hH, g2, g3, g64, g65, g66, hall⟩
      simp at hf hH
      subst hf
      by_cases hlt : i < C.length
      · obtain rfl := hC2 (by omega)
        have t2' := hv.2.2.2.2.2.1 i hlt
        have t3' := mul_bound (a := 1073741824) (b := 1000000) c4.2 t2'
        have t5 : IntKind.i64.wrap (yd * nth C i) = yd * nth C i := w64_id (by omega) (by omega)
        simp [g2, g3, g64, g65, g66, hlt, hH.rd (hx.rd (hC3 i hlt)), hH.rd s3, hH.rdN rN]
        refine (column49 hE (hp0.ext hH) hv.rect v1 hlt).imp ?_
        rintro o ⟨H2, f2⟩ ⟨vc, rfl, x1, x2, x3⟩
        simp at x1 x2 x3
        subst x2
        have ld := dot28 hE (hY0.ext (hH.trans x1)) x3 (by simp; omega)
        have w1 := dot_small' (n := A.length) c2 (hv.col i) (by omega)
        have w2 : IntKind.i64.wrap (dotZ Y (colL A i) Y.length) = dotZ Y (colL A i) A.length := by
          rw [show Y.length = A.length by omega]; exact w64_id (by omega) (by omega)
        rw [w2] at ld
        have q4 := (hH.trans x1).rd s4
        by_cases c5 : yd * nth C i < dotZ Y (colL A i) A.length
        · have hv := inv (fun v => v.2.2.2.2.1 i hlt) (by omega)
          simp [g2, g3, q4, DC_of ld, t5, c5, hv, show Nat.testBit 31 4 = true from rfl]
        · simp [g2, g3, g66, q4, DC_of ld, t5, c5, show Nat.testBit 31 4 = true from rfl]
          refine ⟨k - 1, by omega, i + 1, by omega, hH.trans x1, g64, g65, by rw [w64_id] <;> omega, fun j hj => ?_⟩
          rcases Nat.lt_succ_iff_lt_or_eq.1 hj with hj | rfl
          · exact hall j hj
          · omega
      · have : i = C.length := by omega
        subst this
        have m1 := dot28 hE (hC0.ext hH) (hX0.ext hH) (by have := f4.2.1; omega)
        have m2 := dot28 hE (hB0.ext hH) (hY0.ext hH) (by omega)
        have t1' := dot_small (n := C.length) hv.2.2.2.2.2.1 c1 v4
        have t2' := dot_small (n := B.length) hv.2.2.2.2.1 c2 (by omega)
        rw [show IntKind.i64.wrap (dotZ C X C.length) = dotZ C X C.length from w64_id (by omega) (by omega)] at m1
        rw [show IntKind.i64.wrap (dotZ B Y B.length) = dotZ B Y B.length from w64_id (by omega) (by omega)] at m2
        have m3 := same50 hE (h := H) (a := dotZ C X C.length) (b := yd) (c := dotZ B Y B.length) (d := xd) (by omega) (by omega) (by omega) (by omega)
        have e : Right A B C kind X xd Y yd R ↔ dotZ C X C.length * yd = dotZ B Y B.length * xd := by
          rw [key1]
          exact ⟨fun h => h.2.2.2.2.2, fun h => ⟨f4, by omega, f3', by omega, hall, h⟩⟩
        simp [g2, g3, g64, g65, g66, hH.rd r1, hH.rd r2, hH.rd s1, hH.rd s2, hH.rd s3, hH.rd s4, DC_of m1, DC_of m2, DC_of m3]
        rw [e]
    · exact ⟨0, by simp [g2, g3, Ext.refl]⟩
  by_cases d2 : kind = 2
  · have key1 : Right A B C kind X xd Y yd R ↔ Emp A B C X xd Y yd R := by
      rw [key]
      constructor
      · rintro (⟨h, _⟩ | ⟨_, h⟩ | ⟨h, _⟩)
        · omega
        · exact h
        · omega
      · exact fun h => .inr (.inl ⟨d2, h⟩)
    replace inv : ∀ {P : Prop}, (Emp A B C X xd Y yd R → P) → ¬ P → ¬ Right A B C kind X xd Y yd R := fun h k v => k (h (key1.1 v))
    replace d2 := eq_true d2
    have w0 : IntKind.i64.wrap ((X.length : Int) + R.length) = ((X.length + R.length : Nat) : Int) := by rw [w64_id] <;> omega
    by_cases f1 : ¬ X.length + R.length = 0
    · have hv : ¬ Right A B C kind X xd Y yd R := inv (fun v => (⟨v.1, v.2.2.2.1⟩ : X.length = 0 ∧ R.length = 0)) (by omega)
      simp [s0, s1, s2, s3, s4, s5, r0, r1, r2, g2, g3, d1, d2, w0, -Int.natCast_add, show 0 < X.length + R.length by omega, hv]
    have f1' : ¬ 0 < X.length + R.length := by omega
    by_cases f2 : ¬ xd = 0
    · have hv := inv (fun v => v.2.1) f2
      simp [s0, s1, s2, s3, s4, s5, r0, r1, r2, g2, g3, d1, d2, w0, -Int.natCast_add, f1', f2, hv]
    replace f2 := eq_true (Classical.not_not.1 f2)
    by_cases f3 : ¬ yd = 0
    · have hv := inv (fun v => v.2.2.1) f3
      simp [s0, s1, s2, s3, s4, s5, r0, r1, r2, g2, g3, d1, d2, w0, -Int.natCast_add, f1', f2, f3, hv]
    replace f3 := eq_true (Classical.not_not.1 f3)
    by_cases f4 : ¬ Y.length = B.length
    · have hv := inv (fun v => v.2.2.2.2.1) f4
      simp [s0, s1, s2, s3, s4, s5, r0, r1, r2, g2, g3, d1, d2, w0, -Int.natCast_add, f1', f2, f3, f4, hv]
    have f4' := Classical.not_not.1 f4
    replace f4 := eq_true (Classical.not_not.1 f4)
    simp [s0, s1, s2, s3, s4, s5, r0, r1, r2, g2, g3, d1, d2, w0, -Int.natCast_add, f1', f2, f3, f4]
    refine DW_loop (fun k fr st => ∃ i : Nat, i + k = C.length ∧ st.fl = h.length ∧ Ext h4 st.h ∧ get fr 2 = .pointer (some ⟨p, 0, none⟩) ∧ get fr 3 = .pointer (some ⟨q, 0, none⟩) ∧ get fr 129 = .int .i64 C.length ∧ get fr 130 = .int .i64 i ∧ ∀ j, j < i → 0 ≤ dotZ Y (colL A j) A.length) ?_ (k := C.length) ?_
    · rintro k fr ⟨H, f⟩ ⟨i, hi, hf, hH, g2, g3, g129, g130, hall⟩
      simp at hf hH
      subst hf
      by_cases hlt : i < C.length
      · simp [g2, g3, g129, g130, hlt, hH.rd s3, hH.rdN rN]
        refine (column49 hE (hp0.ext hH) hv.rect v1 hlt).imp ?_
        rintro o ⟨H2, f2⟩ ⟨vc, rfl, x1, x2, x3⟩
        simp at x1 x2 x3
        subst x2
        have ld := dot28 hE (hY0.ext (hH.trans x1)) x3 (by simp; omega)
        have w1 := dot_small' (n := A.length) c2 (hv.col i) (by omega)
        have w2 : IntKind.i64.wrap (dotZ Y (colL A i) Y.length) = dotZ Y (colL A i) A.length := by
          rw [show Y.length = A.length by omega]; exact w64_id (by omega) (by omega)
        rw [w2] at ld
        by_cases c5 : dotZ Y (colL A i) A.length < 0
        · have hv := inv (fun v => v.2.2.2.2.2.1 i hlt) (by omega)
          simp [g2, g3, DC_of ld, c5, hv, show Nat.testBit 31 4 = true from rfl]
        · simp [g2, g3, g130, DC_of ld, c5, show Nat.testBit 31 4 = true from rfl]
          refine ⟨k - 1, by omega, i + 1, by omega, hH.trans x1, g129, by rw [w64_id] <;> omega, fun j hj => ?_⟩
          rcases Nat.lt_succ_iff_lt_or_eq.1 hj with hj | rfl
          · exact hall j hj
          · omega
      · have : i = C.length := by omega
        subst this
        have m2 := dot28 hE (hB0.ext hH) (hY0.ext hH) (by omega)
        have t2' := dot_small (n := B.length) hv.2.2.2.2.1 c2 (by omega)
        rw [show IntKind.i64.wrap (dotZ B Y B.length) = dotZ B Y B.length from w64_id (by omega) (by omega)] at m2
        have e : Right A B C kind X xd Y yd R ↔ dotZ B Y B.length < 0 := by
          rw [key1]
          exact ⟨fun h => h.2.2.2.2.2.2, fun h => ⟨by omega, of_eq_true f2, of_eq_true f3, by omega, f4', hall, h⟩⟩
        simp [g2, g3, g129, g130, hH.rd r1, hH.rd r2, hH.rd s1, hH.rd s2, hH.rd s3, hH.rd s4, DC_of m2, e]
    · exact ⟨0, by simp [g2, g3, Ext.refl]⟩
  by_cases d3 : kind = 3
  · have key1 : Right A B C kind X xd Y yd R ↔ Unb A B C X xd Y yd R := by
      rw [key]
      constructor
      · rintro (⟨h, _⟩ | ⟨h, _⟩ | ⟨_, h⟩)
        · omega
        · omega
        · exact h
      · exact fun h => .inr (.inr ⟨d3, h⟩)
    replace inv : ∀ {P : Prop}, (Unb A B C X xd Y yd R → P) → ¬ P → ¬ Right A B C kind X xd Y yd R := fun h k v => k (h (key1.1 v))
    replace d3 := eq_true d3
    have lp := neg51 hE hR0
    by_cases f1 : ¬ Y.length = 0
    · have hv := inv (fun v => v.2.1) f1
      simp [s0, s1, s2, s3, s4, s5, r0, r1, r2, g2, g3, d1, d2, d3, show 0 < Y.length by omega, hv]
    have f1' : ¬ 0 < Y.length := by omega
    by_cases f2 : ¬ yd = 0
    · have hv := inv (fun v => v.2.2.1) f2
      simp [s0, s1, s2, s3, s4, s5, r0, r1, r2, g2, g3, d1, d2, d3, f1', f2, hv]
    replace f2 := eq_true (Classical.not_not.1 f2)
    by_cases f3 : ¬ IsSol A B C X xd
    · have hv := inv (fun v => v.1) f3
      simp [s0, s1, s2, s3, s4, s5, r0, r1, r2, rN, g2, g3, d1, d2, d3, f1', f2, DC_of ls, f3, hv]
    replace f3 := Classical.not_not.1 f3
    by_cases f4 : ¬ R.length = C.length
    · have hv := inv (fun v => v.2.2.2.1) f4
      simp [s0, s1, s2, s3, s4, s5, r0, r1, r2, rN, g2, g3, d1, d2, d3, f1', f2, DC_of ls, f3, f4, hv]
    have f4' := Classical.not_not.1 f4
    replace f4 := eq_true (Classical.not_not.1 f4)
    by_cases f5 : ¬ Pos R
    · have hv := inv (fun v => v.2.2.2.2.1) f5
      simp [s0, s1, s2, s3, s4, s5, r0, r1, r2, rN, g2, g3, d1, d2, d3, f1', f2, DC_of ls, DC_of lp, f3, f4, f5, hv]
    replace f5 := Classical.not_not.1 f5
    simp [s0, s1, s2, s3, s4, s5, r0, r1, r2, rN, g2, g3, d1, d2, d3, f1', f2, DC_of ls, DC_of lp, f3, f4, f5]
    refine DW_loop (fun k fr st => ∃ i : Nat, i + k = A.length ∧ st = ⟨h4, h.length⟩ ∧ get fr 2 = .pointer (some ⟨p, 0, none⟩) ∧ get fr 3 = .pointer (some ⟨q, 0, none⟩) ∧ get fr 182 = .slice aA A.length cA ∧ get fr 183 = .int .i64 A.length ∧ get fr 184 = .int .i64 i ∧ ∀ j, j < i → dotZ (nthR A j) R C.length = 0) ?_ (k := A.length) ?_
    · rintro k fr st ⟨i, hi, rfl, g2, g3, g182, g183, g184, hall⟩
      by_cases hlt : i < A.length
      · have eA := hA2 (by omega)
        obtain ⟨hr, hI⟩ := hA3 i hlt
        replace hr := hx.rd hr
        replace hI := hI.ext hx
        obtain ⟨q1, q2⟩ := hv.2.2.2.2.2.2 i hlt
        have ld := dot28 hE hI hR0 (by omega)
        have t1 := dot_small (n := (nthR A i).length) q2 c3 (by omega)
        rw [show IntKind.i64.wrap (dotZ (nthR A i) R (nthR A i).length) = dotZ (nthR A i) R (nthR A i).length from w64_id (by omega) (by omega), q1] at ld
        by_cases c6 : dotZ (nthR A i) R C.length = 0
        · simp [g2, g3, g182, g183, g184, hlt, r0, eA, hr, s5, DC_of ld, c6]
          refine ⟨k - 1, by omega, i + 1, by omega, by rw [w64_id] <;> omega, fun j hj => ?_⟩
          rcases Nat.lt_succ_iff_lt_or_eq.1 hj with hj | rfl
          · exact hall j hj
          · exact c6
        · have hv := inv (fun v => v.2.2.2.2.2.1 i hlt) c6
          simp [g2, g3, g182, g183, g184, hlt, r0, eA, hr, s5, DC_of ld, c6, hv]
      · have : i = A.length := by omega
        subst this
        have l2 := dot28 hE hC0 hR0 (by omega)
        have t2 := dot_small (n := C.length) hv.2.2.2.2.2.1 c3 v4
        rw [show IntKind.i64.wrap (dotZ C R C.length) = dotZ C R C.length from w64_id (by omega) (by omega)] at l2
        have e : Right A B C kind X xd Y yd R ↔ dotZ C R C.length < 0 := by
          rw [key1]
          exact ⟨fun h => h.2.2.2.2.2.2, fun h => ⟨f3, by omega, of_eq_true f2, f4', f5, hall, h⟩⟩
        simp [g2, g3, g182, g183, g184, r0, r1, r2, s5, DC_of l2, e]
    · exact ⟨0, by simp [g2, g3]⟩
  have hv : ¬ Right A B C kind X xd Y yd R := fun h => by
    rcases key.1 h with ⟨h, _⟩ | ⟨h, _⟩ | ⟨h, _⟩ <;> omega
  simp [s0, s1, s2, s3, s4, s5, r0, r1, r2, g2, g3, d1, d2, d3, hv]

theorem verify13 {h : List O} {v w : Value} {A : List (List Int)} {B C X Y R : List Int} {kind xd yd : Int} (hp : LpAt h v A B C) (hr : ResAt h w kind X xd Y yd R) :
    DR E 13 [v, w] ⟨h, h.length⟩ (.ret (.int .i64 (if Valid A B C then if Right A B C kind X xd Y yd R then 0 else 5 else 120))) ⟨h, h.length⟩ := by
  refine hE.fn (body := rb13) rfl (by decide) ?_
  unfold rb13
  rw [DW_seq, DW_ops]
  refine DL_boxed fun h1 p hx1 hlen1 hp1 hb1 => DL_boxed fun h' q hx2 hlen2 hq hb2 => ?_
  simp at hb1 hb2
  replace hp := (hp.ext hx1).ext hx2
  replace hr := (hr.ext hx1).ext hx2
  have hp0 := hp
  have hr0 := hr
  obtain ⟨vA, vB, vC, rfl, r0, r1, r2, rN, hA, hB, hC⟩ := boxLp (h := h) (hb1.ext hx2) rfl hp
  obtain ⟨vX, vY, vR, rfl, s0, s1, s2, s3, s4, s5, sN, hX, hY, hR, k1, k2, k3⟩ := boxRes hb2 rfl hr
  have l24 := check24 hE hp0
  by_cases c0 : ¬ Valid A B C
  · simp [rN, DC_of l24, c0]
  replace c0 := Classical.not_not.1 c0
  have lr := isRight32 hE hp0 hr0 c0
  by_cases c1 : Right A B C kind X xd Y yd R
  · simp [rN, sN, DC_of l24, c0, DC_of lr, c1]
  · simp [rN, sN, DC_of l24, c0, DC_of lr, c1]
end Go.Proofs.Ytdbkhecnkhjhpaa
/- Lowest terms. -/
namespace Go.Proofs.Ytdbkhecnkhjhpaa
open Go Go.Ai
set_option linter.unusedSimpArgs false
set_option linter.unusedVariables false
attribute [local instance] Classical.propDecidable
variable {E : Env} (hE : LpE E)

theorem tmod_nat (a b : Nat) : (a : Int).tmod b = ((a % b : Nat) : Int) := rfl
theorem gcd_step (a b : Nat) (hb : b ≠ 0) : Nat.gcd b (a % b) = Nat.gcd a b := by
  rw [Nat.gcd_comm b, ← Nat.gcd_rec, Nat.gcd_comm]

/-- The greatest common divisor of the first numbers. -/
def gN (xs : List Int) : Nat → Nat
  | 0 => 0
  | n + 1 => Nat.gcd (gN xs n) (nth xs n).natAbs
theorem gN_dvd {xs : List Int} {n i : Nat} (hi : i < n) : (gN xs n : Int) ∣ nth xs i := by
  induction n with
  | zero => omega
  | succ n ih =>
    have h1 : (gN xs (n + 1) : Int) ∣ gN xs n := Int.natCast_dvd_natCast.2 (Nat.gcd_dvd_left _ _)
    by_cases h : i < n
    · exact Int.dvd_trans h1 (ih h)
    · have : i = n := by omega
      subst this
      exact Int.dvd_natAbs.1 (Int.natCast_dvd_natCast.2 (Nat.gcd_dvd_right _ _))
def divL (xs : List Int) (g : Int) (i : Nat) : List Int := (xs.take i).map (fun x => x.tdiv g) ++ xs.drop i
theorem divL_zero (xs : List Int) (g : Int) : divL xs g 0 = xs := by simp [divL]
theorem divL_all (xs : List Int) (g : Int) : divL xs g xs.length = xs.map fun x => x.tdiv g := by simp [divL]
theorem divL_length (xs : List Int) (g : Int) (i : Nat) : (divL xs g i).length = xs.length := by simp [divL]; omega
theorem divL_get {xs : List Int} {g : Int} {i : Nat} (hi : i < xs.length) : (divL xs g i)[i]? = some (nth xs i) := by
  simp only [divL]
  rw [List.getElem?_append_right (by simp; omega)]
  simp [nth, hi, Nat.min_eq_left (Nat.le_of_lt hi)]
theorem divL_set {xs : List Int} {g : Int} {i : Nat} (hi : i < xs.length) : (divL xs g i).set i ((nth xs i).tdiv g) = divL xs g (i + 1) := by
  simp only [divL]
  rw [List.set_append_right _ _ (by simp; omega)]
  have e : xs.drop i = nth xs i :: xs.drop (i + 1) := by rw [List.drop_eq_getElem_cons hi, nth_eq hi]
  rw [e, List.take_add_one, List.map_append]
  simp only [List.length_map, List.length_take, Nat.min_eq_left (Nat.le_of_lt hi), Nat.sub_self, List.set_cons_zero, List.getElem?_eq_getElem hi, Option.toList_some, List.map_cons, List.map_nil, List.append_assoc, List.cons_append, List.nil_append, nth_eq hi]
/-- In lowest terms. -/
def lowL (xs : List Int) : List Int := if 1 < gN xs xs.length then xs.map fun x => x.tdiv (gN xs xs.length) else xs

theorem rd_set_same {h : List O} {b : Nat} (hb : b < h.length) (c : List Value) (el : TypeId) (own : Option Nat) (i : Nat) : rd (h.set b (.cells c el own)) b i = c[i]? := by
  simp [rd, hb]
theorem wrN_set_same {h : List O} {b : Nat} (hb : b < h.length) (c : List Value) (el : TypeId) (s i : Nat) (vs : List Value) (h1 : i + vs.length ≤ c.length) (h2 : vs.all one1 = true) :
    wrN (h.set b (.cells c el (some s))) b i vs = some (h.set b (.cells (setL c i vs) el (some s))) := by
  simp [wrN, hb, h1]
  simpa using h2

include hE
theorem gcd31 {h : List O} {a b : Int} (ha : -4611686018427387904 ≤ a ∧ a ≤ 4611686018427387904) (hb : 0 ≤ b) :
    DR E 31 [.int .i64 a, .int .i64 b] ⟨h, h.length⟩ (.ret (.int .i64 (Nat.gcd a.natAbs b.natAbs : Nat))) ⟨h, h.length⟩ := by
  refine hE.fn (body := rb31) rfl (by decide) ?_
  unfold rb31
  have fin : ∀ fr, get fr 0 = .int .i64 (a.natAbs : Int) → get fr 1 = .int .i64 b → ∀ (r : R) (Q : Post), (∀ fr, get fr 0 = .int .i64 (Nat.gcd a.natAbs b.natAbs : Nat) → Q (.exit 0) fr ⟨h, h.length⟩) →
      DW E (.loop (.seq (.seq (.ops false [⟨(.some 10), .none, (.mv (.tmp 1)), 0⟩, ⟨(.some 11), .none, (.bin .neq (.tmp 10) (.const (.int .i64 0))), 0⟩]) (.cond (.tmp 11) .skip (.exit 0))) (.block 1 (.seq (.ops false [⟨(.some 12), .none, (.mv (.tmp 0)), 0⟩, ⟨(.some 13), .none, (.mv (.tmp 1)), 0⟩, ⟨(.some 14), .none, (.bin .rem (.tmp 12) (.tmp 13)), 0⟩, ⟨(.some 5), .none, (.mv (.tmp 14)), 0⟩]) (.seq (.ops false [⟨(.some 15), .none, (.mv (.tmp 1)), 0⟩, ⟨(.some 0), .none, (.mv (.tmp 15)), 0⟩]) (.ops false [⟨(.some 16), .none, (.mv (.tmp 5)), 0⟩, ⟨(.some 1), .none, (.mv (.tmp 16)), 0⟩])))))) fr ⟨h, h.length⟩ Q := by
    intro fr g0 g1 r Q hQ
    refine DW_loop (fun k fr st => ∃ x y : Nat, k = y ∧ st = ⟨h, h.length⟩ ∧ get fr 0 = .int .i64 x ∧ get fr 1 = .int .i64 y ∧ Nat.gcd x y = Nat.gcd a.natAbs b.natAbs) ?_ (k := b.natAbs) ⟨a.natAbs, b.natAbs, rfl, rfl, g0, by rw [g1, show ((b.natAbs : Nat) : Int) = b by omega], rfl⟩
    rintro k fr st ⟨x, y, rfl, rfl, g0, g1, hg⟩
    by_cases c : k = 0
    · subst c
      simp [g0, g1]
      refine hQ _ ?_
      simp at hg
      simp [g0, hg]
    · simp [g0, g1, c, binV_rem (show (k : Int) ≠ 0 by omega), tmod_nat]
      exact ⟨x % k, Nat.mod_lt _ (by omega), by omega, by rw [gcd_step _ _ c]; exact hg⟩
  by_cases c : a < 0
  · have e : IntKind.i64.wrap (-a) = (a.natAbs : Int) := by rw [w64_id] <;> omega
    simp [c, e]
    refine fin _ (by simp) (by simp) .skip _ fun fr g0 => ?_
    simp [g0]
  · have e : a = (a.natAbs : Int) := by omega
    simp [c]
    refine fin _ (by simp; exact e) (by simp) .skip _ fun fr g0 => ?_
    simp [g0]

omit hE in
theorem set_same {h : List O} {b : Nat} {o : O} (hb : h[b]? = some o) : h.set b o = h := by
  apply List.ext_getElem?
  intro i
  rw [List.getElem?_set]
  by_cases h1 : b = i
  · subst h1
    have := (List.getElem?_eq_some_iff.1 hb).1
    simp [this]
    rw [List.getElem?_eq_getElem this] at hb
    exact (Option.some.inj hb).symm
  · simp [h1]
theorem lowest29 {H : List O} {bL oL cL b n c s : Nat} {el : TypeId} {xs : List Int} (hL : rd H bL oL = some (.slice (some ⟨b, 0, none⟩) xs.length c)) (hb : H[b]? = some (.cells (xs.map (.int .i64)) el (some s))) (hne : bL ≠ b) (hlen : xs.length < 1000000)
    (hx : ∀ i, -4611686018427387904 ≤ nth xs i ∧ nth xs i ≤ 4611686018427387904) :
    DC E 29 [.slice (some ⟨bL, oL, none⟩) 1 cL] ⟨H, H.length⟩ fun o st' => o = .ret (.tuple #[]) ∧ ∃ f, st' = ⟨H.set b (.cells ((lowL xs).map (.int .i64)) el (some s)), f⟩ ∧ b ≤ f := by
  refine hE.fnC (body := rb29) rfl (by decide) ?_
  unfold rb29
  have hbl : b < H.length := (List.getElem?_eq_some_iff.1 hb).1
  have rx : ∀ i, i < xs.length → rd H b i = some (.int .i64 (nth xs i)) := fun i hi => by simp [rd, hb, hi, nth]
  simp
  rw [DW_loop_unfold]
  simp [hL]
  refine DW_loop (fun k fr st => ∃ i : Nat, i + k = xs.length ∧ st = ⟨H, H.length⟩ ∧ get fr 0 = .slice (some ⟨bL, oL, none⟩) 1 cL ∧ get fr 13 = .int .i64 1 ∧ get fr 14 = .int .i64 0 ∧ get fr 18 = .slice (some ⟨b, 0, none⟩) xs.length c ∧ get fr 19 = .int .i64 xs.length ∧ get fr 20 = .int .i64 i ∧ get fr 2 = .int .i64 (gN xs i)) ?_ (k := xs.length) ⟨0, by simp [gN]⟩
  rintro k fr st ⟨i, hi, rfl, g0, g13, g14, g18, g19, g20, g2⟩
  by_cases hlt : i < xs.length
  · have hab := abs46 hE (h := H) (x := nth xs i) (by have := hx i; omega)
    simp [g0, g13, g14, g18, g19, g20, g2, hlt, rx i hlt, DC_of hab]
    refine DW_loop (fun k' fr st => ∃ x y : Nat, k' = y ∧ st = ⟨H, H.length⟩ ∧ get fr 0 = .slice (some ⟨bL, oL, none⟩) 1 cL ∧ get fr 13 = .int .i64 1 ∧ get fr 14 = .int .i64 0 ∧ get fr 18 = .slice (some ⟨b, 0, none⟩) xs.length c ∧ get fr 19 = .int .i64 xs.length ∧ get fr 20 = .int .i64 i ∧ get fr 7 = .int .i64 x ∧ get fr 8 = .int .i64 y ∧ Nat.gcd x y = gN xs (i + 1)) ?_ (k := (nth xs i).natAbs) ⟨gN xs i, (nth xs i).natAbs, rfl, by simp [gN, g0, g13, g14, g18, g19, g20, g2]⟩
    rintro k' fr st ⟨x, y, rfl, rfl, g0, g13, g14, g18, g19, g20, g7, g8, hg⟩
    by_cases c0 : k' = 0
    · subst c0
      simp [g0, g13, g14, g18, g19, g20, g7, g8]
      simp at hg
      exact ⟨k - 1, by omega, i + 1, by omega, by rw [w64_id] <;> omega, by rw [hg]⟩
    · simp [g0, g13, g14, g18, g19, g20, g7, g8, c0, binV_rem (show (k' : Int) ≠ 0 by omega), tmod_nat]
      exact ⟨x % k', Nat.mod_lt _ (by omega), by omega, by rw [gcd_step _ _ c0]; exact hg⟩
  · have : i = xs.length := by omega
    subst this
    simp [g0, g13, g14, g18, g19, g20, g2, w64_id]
    rw [DW_loop_unfold]
    simp [g0, g13, g2, w64_id]
    rw [DW_loop_unfold]
    simp [g0, g13, g2, w64_id, hL]
    generalize hG : gN xs xs.length = G at *
    by_cases hG1 : 1 < G
    · have hlow : lowL xs = divL xs G xs.length := by rw [divL_all]; simp [lowL, hG, hG1]
      have hpos : 0 < xs.length := by
        rcases Nat.eq_zero_or_pos xs.length with h0 | h0
        · rw [h0] at hG; simp [gN] at hG; omega
        · exact h0
      refine DW_loop (fun k fr st => ∃ i : Nat, i + k = xs.length ∧ st = ⟨H.set b (.cells ((divL xs G i).map (.int .i64)) el (some s)), if i = 0 then H.length else b⟩ ∧ get fr 37 = .int .i64 1 ∧ get fr 38 = .int .i64 0 ∧ get fr 10 = .slice (some ⟨b, 0, none⟩) xs.length c ∧ get fr 43 = .int .i64 xs.length ∧ get fr 44 = .int .i64 i ∧ get fr 2 = .int .i64 G) ?_ (k := xs.length) ⟨0, by simp [divL_zero, set_same hb, g2]⟩
      rintro k fr st ⟨i, hi, rfl, g37, g38, g10, g43, g44, g2⟩
      by_cases hlt : i < xs.length
      · have h1 := rd_set_same hbl ((divL xs G i).map (.int .i64)) el (some s) i
        simp only [List.getElem?_map, divL_get hlt, Option.map_some] at h1
        have h2 := wrN_set_same hbl ((divL xs G i).map (.int .i64)) el s i [.int .i64 ((nth xs i).tdiv G)] (by simp [divL_length]; omega) rfl
        have h3 : setL ((divL xs G i).map (Value.int .i64)) i [.int .i64 ((nth xs i).tdiv G)] = (divL xs G (i + 1)).map (.int .i64) := by
          simp only [setL_cons, setL_nil]
          rw [← divL_set hlt, List.map_set]
        rw [h3] at h2
        have tc := tdiv_cases (nth xs i) G
        have hxi := hx i
        have d1 : (nth xs i) / (G : Int) ≤ 4611686018427387904 ∨ nth xs i < 0 := by
          by_cases h0 : nth xs i < 0
          · exact .inr h0
          · left
            have := Int.ediv_le_self (b := (G : Int)) (a := nth xs i) (by omega)
            omega
        have d2 : (-nth xs i) / (G : Int) ≤ 4611686018427387904 ∨ 0 ≤ nth xs i := by
          by_cases h0 : 0 ≤ nth xs i
          · exact .inr h0
          · left
            have := Int.ediv_le_self (b := (G : Int)) (a := -nth xs i) (by omega)
            omega
        have d3 : 0 ≤ (nth xs i) / (G : Int) ∨ nth xs i < 0 := by
          by_cases h0 : nth xs i < 0
          · exact .inr h0
          · exact .inl (Int.ediv_nonneg (by omega) (by omega))
        have d4 : 0 ≤ (-nth xs i) / (G : Int) ∨ 0 ≤ nth xs i := by
          by_cases h0 : 0 ≤ nth xs i
          · exact .inr h0
          · exact .inl (Int.ediv_nonneg (by omega) (by omega))
        have w1 : IntKind.i64.wrap ((nth xs i).tdiv G) = (nth xs i).tdiv G := w64_id (by omega) (by omega)
        simp [g37, g38, g10, g43, g44, g2, hlt, h1, h2, hG1, show (1 : Int) < G by omega, binV_quo (show (G : Int) ≠ 0 by omega), w1]
        refine ⟨k - 1, by omega, i + 1, by omega, ⟨rfl, ?_⟩, by rw [w64_id] <;> omega⟩
        split <;> simp <;> omega
      · have : i = xs.length := by omega
        subst this
        simp [g37, g38, g10, g43, g44, g2, w64_id]
        rw [DW_loop_unfold]
        simp [g37, g38, g10, g43, g44, g2, w64_id]
        rw [show (if xs = [] then H.length else b) = b from if_neg (fun h0 => by rw [h0] at hpos; simp at hpos)]
        have hbk : back ⟨H, H.length⟩ (.ret (.tuple #[])) ⟨H.set b (.cells ((divL xs G xs.length).map (.int .i64)) el (some s)), b⟩ = (.ret (.tuple #[]), ⟨H.set b (.cells ((divL xs G xs.length).map (.int .i64)) el (some s)), b⟩) := by
          unfold back
          rw [if_neg]
          intro hh
          rw [Bool.and_eq_true, decide_eq_true_eq] at hh
          have : H.length ≤ b := hh.2
          omega
        rw [hbk, pairQ_mk, hlow]
        exact ⟨rfl, b, rfl, Nat.le_refl _⟩
    · have hlow : lowL xs = xs := by simp [lowL, hG, hG1]
      refine DW_loop (fun k fr st => ∃ i : Nat, i + k = xs.length ∧ st = ⟨H, H.length⟩ ∧ get fr 37 = .int .i64 1 ∧ get fr 38 = .int .i64 0 ∧ get fr 43 = .int .i64 xs.length ∧ get fr 44 = .int .i64 i ∧ get fr 2 = .int .i64 G) ?_ (k := xs.length) ⟨0, by simp [g2]⟩
      rintro k fr st ⟨i, hi, rfl, g37, g38, g43, g44, g2⟩
      by_cases hlt : i < xs.length
      · simp [g37, g38, g43, g44, g2, hlt, show ¬ (1 : Int) < G by omega]
        exact ⟨k - 1, by omega, i + 1, by omega, by rw [w64_id] <;> omega⟩
      · have : i = xs.length := by omega
        subst this
        simp [g37, g38, g43, g44, g2, w64_id]
        rw [DW_loop_unfold]
        simp [g37, g38, g43, g44, g2, w64_id]
        rw [back_scalar rfl (Nat.le_refl _), pairQ_mk, hlow, set_same hb]
        exact ⟨rfl, _, rfl, Nat.le_of_lt hbl⟩

/-! ### Value -/
def valN (C X : List Int) (xd : Int) : Int := (dotZ C X C.length).tdiv (Nat.gcd (dotZ C X C.length).natAbs xd.natAbs)
def valD (C X : List Int) (xd : Int) : Int := xd.tdiv (Nat.gcd (dotZ C X C.length).natAbs xd.natAbs)
noncomputable def errV (A : List (List Int)) (B C : List Int) (kind : Int) (X : List Int) (xd : Int) (Y : List Int) (yd : Int) (R : List Int) : Int :=
  if Valid A B C then if Right A B C kind X xd Y yd R then if kind = 1 then 0 else 5 else 5 else 120

omit hE in
theorem lowL_two (d x : Int) (hx : 1 ≤ x) : lowL [d, x] = [d.tdiv (Nat.gcd d.natAbs x.natAbs), x.tdiv (Nat.gcd d.natAbs x.natAbs)] := by
  have e : gN [d, x] 2 = Nat.gcd d.natAbs x.natAbs := by simp [gN, nth]
  have e1 : 0 < Nat.gcd d.natAbs x.natAbs := Nat.gcd_pos_of_pos_right _ (by omega)
  unfold lowL
  simp only [List.length_cons, List.length_nil, Nat.zero_add, Nat.reduceAdd, e]
  split
  · rfl
  · rw [show Nat.gcd d.natAbs x.natAbs = 1 by omega]
    simp
theorem value10 {h : List O} {v w : Value} {A : List (List Int)} {B C X Y R : List Int} {kind xd yd : Int} (hp : LpAt h v A B C) (hr : ResAt h w kind X xd Y yd R) :
    DR E 10 [v, w] ⟨h, h.length⟩ (.ret (.tuple #[.int .i64 (if errV A B C kind X xd Y yd R = 0 then valN C X xd else 0), .int .i64 (if errV A B C kind X xd Y yd R = 0 then valD C X xd else 0), .int .i64 (errV A B C kind X xd Y yd R)])) ⟨h, h.length⟩ := by
  refine hE.fn (body := rb10) rfl (by decide) ?_
  unfold rb10
  rw [DW_seq, DW_ops]
  refine DL_boxed fun h1 p hx1 hlen1 hp1 hb1 => DL_boxed fun h' q hx2 hlen2 hq hb2 => ?_
  simp at hb1 hb2
  replace hp := (hp.ext hx1).ext hx2
  replace hr := (hr.ext hx1).ext hx2
  have hp0 := hp
  have hr0 := hr
  obtain ⟨vA, vB, vC, rfl, r0, r1, r2, rN, hA, hB, hC⟩ := boxLp (h := h) (hb1.ext hx2) rfl hp
  obtain ⟨vX, vY, vR, rfl, s0, s1, s2, s3, s4, s5, sN, hX, hY, hR, k1, k2, k3⟩ := boxRes hb2 rfl hr
  have l13 := verify13 hE hp0 hr0
  have bt : ∀ (H : List O) (a b c : Int), back ⟨h, h.length⟩ (.ret (.tuple #[.int .i64 a, .int .i64 b, .int .i64 c])) ⟨H, h.length⟩ = (.ret (.tuple #[.int .i64 a, .int .i64 b, .int .i64 c]), ⟨h, h.length⟩) := fun H a b c => back_scalar (by simp [Out.scalar, scalar, flat1, flat]) (Nat.le_refl _)
  by_cases c0 : ¬ Valid A B C
  · have he : errV A B C kind X xd Y yd R = 120 := by simp [errV, c0]
    simp [rN, sN, DC_of l13, c0, bt, he]
  replace c0 := Classical.not_not.1 c0
  by_cases c1 : ¬ Right A B C kind X xd Y yd R
  · have he : errV A B C kind X xd Y yd R = 5 := by simp [errV, c0, c1]
    simp [rN, sN, DC_of l13, c0, c1, bt, he]
  replace c1 := Classical.not_not.1 c1
  by_cases c2 : ¬ kind = 1
  · have he : errV A B C kind X xd Y yd R = 5 := by simp [errV, c0, c1, c2]
    simp [rN, sN, s0, DC_of l13, c0, c1, c2, bt, he]
  replace c2 := Classical.not_not.1 c2
  subst c2
  have he : errV A B C 1 X xd Y yd R = 0 := by simp [errV, c0, c1]
  have ho : Opt A B C X xd Y yd R := by
    rcases c1.2 with ⟨_, h⟩ | ⟨h, _⟩ | ⟨h, _⟩
    · exact h
    · omega
    · omega
  have hXl := ho.1.2.1
  have hxd := ho.1.1
  have hw := c1.1.1
  have hsm := c1.1.2.2.2.1
  have ld := dot28 hE hC hX (by omega)
  have t1 := dot_small (n := C.length) c0.2.2.2.2.2.1 hw c0.2.2.2.1
  rw [show IntKind.i64.wrap (dotZ C X C.length) = dotZ C X C.length from w64_id (by omega) (by omega)] at ld
  simp [rN, sN, s0, s1, s2, r2, DC_of l13, c0, c1, DC_of ld, -List.length_append, -List.append_assoc, show Nat.testBit 127 4 = true from rfl]
  have lw := lowest29 hE (H := h' ++ [.cells [.int .i64 (dotZ C X C.length), .int .i64 xd] 3 (some 0)] ++ [.cells [.slice (some ⟨h'.length, 0, none⟩) 2 2] 23 (some 0)]) (bL := h'.length + 1) (oL := 0) (cL := 1) (b := h'.length) (n := 2) (c := 2) (s := 0) (el := 3) (xs := [dotZ C X C.length, xd]) (by simp [rd]) (by simp) (by omega) (by simp) (fun i => by
    match i with
    | 0 => simp [nth]; omega
    | 1 => simp [nth]; omega
    | n + 2 => simp [nth])
  rw [show (h' ++ [O.cells [.int .i64 (dotZ C X C.length), .int .i64 xd] 3 (some 0)]).length = h'.length + 1 by simp]
  refine lw.imp ?_
  rintro o st' ⟨rfl, f, rfl, hf⟩
  have hj : ∀ (H H' : List O) (f0 f1 : Nat), f0 ≤ f1 → joined ⟨H, f0⟩ ⟨H', f1⟩ = ⟨H', f0⟩ := fun H H' f0 f1 h01 => by
    simp only [joined]
    split
    · rw [Nat.min_eq_left h01]
    · rfl
  have hle : h.length ≤ f := by omega
  simp [hj _ _ _ _ hle, lowL_two _ _ hxd, rd, List.getElem_append_right]
  rw [bt, pairQ_mk]
  simp [he, valN, valD]

theorem value11 {h : List O} {v w : Value} {A : List (List Int)} {B C X Y R : List Int} {kind xd yd : Int} (hp : LpAt h v A B C) (hr : ResAt h w kind X xd Y yd R) :
    DR E 11 [v, w] ⟨h, h.length⟩ (.ret (.agg #[.int .i64 (if errV A B C kind X xd Y yd R = 0 then valN C X xd else 0), .int .i64 (if errV A B C kind X xd Y yd R = 0 then valD C X xd else 0), .int .i64 (errV A B C kind X xd Y yd R)])) ⟨h, h.length⟩ := by
  refine hE.fn (body := rb11) rfl (by decide) ?_
  unfold rb11
  rw [DW_seq, DW_ops]
  refine DL_boxed fun h1 p hx1 hlen1 hp1 hb1 => DL_boxed fun h' q hx2 hlen2 hq hb2 => ?_
  simp at hb1 hb2
  replace hp := (hp.ext hx1).ext hx2
  replace hr := (hr.ext hx1).ext hx2
  have hx3 : Ext h' (h' ++ [.cells [.int .i64 0, .int .i64 0, .int .i64 0] 32 (some 0)]) := Ext.snoc _ _
  replace hp := hp.ext hx3
  replace hr := hr.ext hx3
  have hp0 := hp
  have hr0 := hr
  obtain ⟨vA, vB, vC, rfl, r0, r1, r2, rN, hA, hB, hC⟩ := boxLp (h := h) ((hb1.ext hx2).ext hx3) rfl hp
  obtain ⟨vX, vY, vR, rfl, s0, s1, s2, s3, s4, s5, sN, hX, hY, hR, k1, k2, k3⟩ := boxRes (hb2.ext hx3) rfl hr
  have l14 := verify14 hE hp0 hr0
  have bt : ∀ (H : List O) (a b c : Int), back ⟨h, h.length⟩ (.ret (.agg #[.int .i64 a, .int .i64 b, .int .i64 c])) ⟨H, h.length⟩ = (.ret (.agg #[.int .i64 a, .int .i64 b, .int .i64 c]), ⟨h, h.length⟩) := fun H a b c => back_scalar (by simp [Out.scalar, scalar, flat1, flat]) (Nat.le_refl _)
  have hm : min h.length h'.length = h.length := by omega
  by_cases c0 : ¬ Valid A B C
  · have he : errV A B C kind X xd Y yd R = 120 := by simp [errV, c0]
    simp [rN, sN, DC_of l14, c0, bt, he, hm, -List.length_append]
  replace c0 := Classical.not_not.1 c0
  by_cases c1 : ¬ Right A B C kind X xd Y yd R
  · have he : errV A B C kind X xd Y yd R = 5 := by simp [errV, c0, c1]
    simp [rN, sN, DC_of l14, c0, c1, bt, he, hm, -List.length_append]
  replace c1 := Classical.not_not.1 c1
  by_cases c2 : ¬ kind = 1
  · have he : errV A B C kind X xd Y yd R = 5 := by simp [errV, c0, c1, c2]
    simp [rN, sN, s0, DC_of l14, c0, c1, c2, bt, he, hm, -List.length_append]
  replace c2 := Classical.not_not.1 c2
  subst c2
  have he : errV A B C 1 X xd Y yd R = 0 := by simp [errV, c0, c1]
  have ho : Opt A B C X xd Y yd R := by
    rcases c1.2 with ⟨_, h⟩ | ⟨h, _⟩ | ⟨h, _⟩
    · exact h
    · omega
    · omega
  have hXl := ho.1.2.1
  have hxd := ho.1.1
  have hw := c1.1.1
  have hsm := c1.1.2.2.2.1
  have ld := dot30 hE hC hX (by omega)
  have t1 := dot_small (n := C.length) c0.2.2.2.2.2.1 hw c0.2.2.2.1
  rw [show IntKind.i64.wrap (dotZ C X C.length) = dotZ C X C.length from w64_id (by omega) (by omega)] at ld
  have lg := gcd31 hE (h := h' ++ [.cells [.int .i64 0, .int .i64 0, .int .i64 0] 32 (some 0)]) (a := dotZ C X C.length) (b := xd) (by omega) (by omega)
  have gpos : 0 < Nat.gcd (dotZ C X C.length).natAbs xd.natAbs := Nat.gcd_pos_of_pos_right _ (by omega)
  have hv1 : IntKind.i64.wrap ((dotZ C X C.length).tdiv (Nat.gcd (dotZ C X C.length).natAbs xd.natAbs)) = valN C X xd := by
    unfold valN
    have := Int.natAbs_tdiv_le_natAbs (dotZ C X C.length) (Nat.gcd (dotZ C X C.length).natAbs xd.natAbs)
    rw [w64_id] <;> omega
  have hv2 : IntKind.i64.wrap (xd.tdiv (Nat.gcd (dotZ C X C.length).natAbs xd.natAbs)) = valD C X xd := by
    unfold valD
    have := Int.natAbs_tdiv_le_natAbs xd (Nat.gcd (dotZ C X C.length).natAbs xd.natAbs)
    rw [w64_id] <;> omega
  simp [rN, sN, s0, s1, s2, r2, DC_of l14, c0, c1, DC_of ld, DC_of lg, -List.length_append, hm, binV_quo (show ((Nat.gcd (dotZ C X C.length).natAbs xd.natAbs : Nat) : Int) ≠ 0 by omega), hv1, hv2]
  refine ⟨fun hh => by simp [show Nat.testBit 255 4 = true from rfl] at hh, ?_⟩
  rw [bt, pairQ_mk]
  simp [he]
end Go.Proofs.Ytdbkhecnkhjhpaa
