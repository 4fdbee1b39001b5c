/- What the small functions of layer 12 return. -/
import Derived.Test.YtdbkhecnkhjhpaaAiX
import Derived.Test.YtdbkhecnkhjhpaaAiF
namespace Go.Proofs.Ytdbkhecnkhjhpaa
open Go Go.Ai
set_option linter.unusedSimpArgs false
set_option linter.unusedVariables false
attribute [local instance] Classical.propDecidable
structure LpE (E : Env) : Prop where
  F : E.F = rF
  S : ∀ f, f ≠ 16 → f ≠ 12 → E.S f = none
variable {E : Env} (hE : LpE E)
include hE
theorem LpE.fn {f : FuncId} {body : R} {res : List RRes} {args : List Value} {st : St} {o : Out} {st' : St} (h : rF f = some ⟨body, res⟩) (hf : f ≠ 16 ∧ f ≠ 12) (hw : DW E body args st (endK res st fun o2 st2 => o2 = o ∧ st2 = st')) : DR E f args st o st' :=
  DR_of ((DC_fn (by rw [hE.F]; exact h) (hE.S f hf.1 hf.2)).2 hw)
theorem LpE.fnC {f : FuncId} {body : R} {res : List RRes} {args : List Value} {st : St} {Q : Out → St → Prop} (h : rF f = some ⟨body, res⟩) (hf : f ≠ 16 ∧ f ≠ 12) (hw : DW E body args st (endK res st Q)) : DC E f args st Q :=
  (DC_fn (by rw [hE.F]; exact h) (hE.S f hf.1 hf.2)).2 hw

def dotZ (xs ys : List Int) (n : Nat) : Int := sumN (fun i => nth xs i * nth ys i) n

theorem dot28 {h : List O} {va vb : Value} {xs ys : List Int} (ha : Ints h va xs) (hb : Ints h vb ys) (hl : xs.length ≤ ys.length) :
    DR E 28 [va, vb] ⟨h, h.length⟩ (.ret (.int .i64 (IntKind.i64.wrap (dotZ xs ys xs.length)))) ⟨h, h.length⟩ := by
  refine hE.fn (body := rb28) rfl (by decide) ?_
  unfold rb28
  obtain ⟨a, b, o, c, rfl, h2, h3, h4, h5⟩ := ha
  obtain ⟨a', b', o', c', rfl, h2', h3', h4', h5'⟩ := hb
  simp
  refine DW_loop (fun k fr st => ∃ i : Nat, i + k = xs.length ∧ st = ⟨h, h.length⟩ ∧ get fr 8 = .slice a xs.length c ∧ get fr 9 = .int .i64 xs.length ∧ get fr 10 = .int .i64 i ∧ get fr 5 = .int .i64 (IntKind.i64.wrap (dotZ xs ys i)) ∧ get fr 1 = .slice a' ys.length c') ?_ (k := xs.length) ?_
  · rintro k fr st ⟨i, hi, rfl, g8, g9, g10, g5, g1⟩
    by_cases hlt : i < xs.length
    · obtain rfl := h2 (by omega)
      obtain rfl := h2' (by omega)
      simp [g8, g9, g10, g5, g1, hlt, h3 i hlt, h3' i (by omega), show i < ys.length by omega]
      refine ⟨k - 1, by omega, i + 1, by omega, ?_, ?_⟩
      · rw [w64_id] <;> omega
      · simp [dotZ, sumN]
    · have : i = xs.length := by omega
      subst this
      simp [g8, g9, g10, g5, g1]
  · exact ⟨0, by simp [dotZ, sumN, w64_id]⟩

theorem dot30 {h : List O} {va vb : Value} {xs ys : List Int} (ha : Ints h va xs) (hb : Ints h vb ys) (hl : xs.length ≤ ys.length) :
    DR E 30 [va, vb] ⟨h, h.length⟩ (.ret (.int .i64 (IntKind.i64.wrap (dotZ xs ys xs.length)))) ⟨h, h.length⟩ := by
  refine hE.fn (body := rb30) rfl (by decide) ?_
  unfold rb30
  obtain ⟨a, b, o, c, rfl, h2, h3, h4, h5⟩ := ha
  obtain ⟨a', b', o', c', rfl, h2', h3', h4', h5'⟩ := hb
  simp
  refine DW_loop (fun k fr st => ∃ i : Nat, i + k = xs.length ∧ st = ⟨h, h.length⟩ ∧ get fr 0 = .slice a xs.length c ∧ get fr 6 = .int .i64 i ∧ get fr 5 = .int .i64 (IntKind.i64.wrap (dotZ xs ys i)) ∧ get fr 1 = .slice a' ys.length c') ?_ (k := xs.length) ?_
  · rintro k fr st ⟨i, hi, rfl, g0, g6, g5, g1⟩
    by_cases hlt : i < xs.length
    · obtain rfl := h2 (by omega)
      obtain rfl := h2' (by omega)
      simp [g0, g6, g5, g1, hlt, h3 i hlt, h3' i (by omega), show i < ys.length by omega]
      refine ⟨k - 1, by omega, i + 1, by omega, ?_, ?_⟩
      · rw [w64_id] <;> omega
      · simp [dotZ, sumN]
    · have : i = xs.length := by omega
      subst this
      simp [g0, g6, g5, g1]
  · exact ⟨0, by simp [dotZ, sumN, w64_id]⟩

/-- All numbers are at most so large. -/
def Within (xs : List Int) (m : Int) : Prop := ∀ i, i < xs.length → -m ≤ nth xs i ∧ nth xs i ≤ m

theorem within33 {h : List O} {v : Value} {xs : List Int} {m : Int} (hv : Ints h v xs) (hm : 0 ≤ m ∧ m ≤ 1099511627776) :
    DR E 33 [v, .int .i64 m] ⟨h, h.length⟩ (.ret (.bool (decide (Within xs m)))) ⟨h, h.length⟩ := by
  refine hE.fn (body := rb33) rfl (by decide) ?_
  unfold rb33
  obtain ⟨a, b, o, c, rfl, h2, h3, h4, h5⟩ := hv
  have hneg : IntKind.i64.wrap (-m) = -m := w64_id (by omega) (by omega)
  simp
  refine DW_loop (fun k fr st => ∃ i : Nat, i + k = xs.length ∧ st = ⟨h, h.length⟩ ∧ get fr 0 = .slice a xs.length c ∧ get fr 1 = .int .i64 m ∧ get fr 5 = .int .i64 i ∧ ∀ j, j < i → -m ≤ nth xs j ∧ nth xs j ≤ m) ?_ (k := xs.length) ?_
  · rintro k fr st ⟨i, hi, rfl, g0, g1, g5, hall⟩
    by_cases hlt : i < xs.length
    · obtain rfl := h2 (by omega)
      by_cases h6 : m < nth xs i
      · simp [g0, g1, g5, hlt, h3 i hlt, h6, hneg]
        exact fun hw => by have := (hw i hlt).2; omega
      · by_cases h7 : nth xs i < -m
        · simp [g0, g1, g5, hlt, h3 i hlt, h6, hneg, h7]
          exact fun hw => by have := (hw i hlt).1; omega
        · simp [g0, g1, g5, hlt, h3 i hlt, h6, hneg, h7]
          refine ⟨k - 1, by omega, i + 1, by omega, by rw [w64_id] <;> omega, fun j hj => ?_⟩
          rcases Nat.lt_succ_iff_lt_or_eq.1 hj with hj | rfl
          · exact hall j hj
          · omega
    · have : i = xs.length := by omega
      subst this
      simp [g0, g1, g5]
      exact hall
  · exact ⟨0, by simp⟩

def Pos (xs : List Int) : Prop := ∀ i, i < xs.length → 0 ≤ nth xs i
theorem pos54 {h : List O} {v : Value} {xs : List Int} (hv : Ints h v xs) :
    DR E 54 [v] ⟨h, h.length⟩ (.ret (.bool (decide (Pos xs)))) ⟨h, h.length⟩ := by
  refine hE.fn (body := rb54) rfl (by decide) ?_
  unfold rb54
  obtain ⟨a, b, o, c, rfl, h2, h3, h4, h5⟩ := hv
  simp
  refine DW_loop (fun k fr st => ∃ i : Nat, i + k = xs.length ∧ st = ⟨h, h.length⟩ ∧ get fr 0 = .slice a xs.length c ∧ get fr 3 = .int .i64 i ∧ ∀ j, j < i → 0 ≤ nth xs j) ?_ (k := xs.length) ?_
  · rintro k fr st ⟨i, hi, rfl, g0, g3, hall⟩
    by_cases hlt : i < xs.length
    · obtain rfl := h2 (by omega)
      by_cases h6 : nth xs i < 0
      · simp [g0, g3, hlt, h3 i hlt, h6]
        exact fun hw => by have := hw i hlt; omega
      · simp [g0, g3, hlt, h3 i hlt, h6]
        refine ⟨k - 1, by omega, i + 1, by omega, by rw [w64_id] <;> omega, fun j hj => ?_⟩
        rcases Nat.lt_succ_iff_lt_or_eq.1 hj with hj | rfl
        · exact hall j hj
        · omega
    · have : i = xs.length := by omega
      subst this
      simp [g0, g3]
      exact hall
  · exact ⟨0, by simp⟩

theorem abs46 {h : List O} {x : Int} (hx : I64 x ∧ x ≠ -9223372036854775808) :
    DR E 46 [.int .i64 x] ⟨h, h.length⟩ (.ret (.int .i64 (x.natAbs : Int))) ⟨h, h.length⟩ := by
  refine hE.fn (body := rb46) rfl (by decide) ?_
  unfold rb46
  simp
  rw [w64_id (by omega) (by omega)]
  omega
theorem c44 {h : List O} {x : Int} : DR E 44 [.int .i64 x] ⟨h, h.length⟩ (.ret (.bool (decide (¬ (-1000000 ≤ x ∧ x ≤ 1000000))))) ⟨h, h.length⟩ := by
  refine hE.fn (body := rb44) rfl (by decide) ?_
  unfold rb44
  by_cases h1 : 1000000 < x
  · simp [h1]
  · simp [h1]
theorem c47 {h : List O} {x : Int} : DR E 47 [.int .i64 x] ⟨h, h.length⟩ (.ret (.bool (decide (¬ (-1073741824 ≤ x ∧ x ≤ 1073741824))))) ⟨h, h.length⟩ := by
  refine hE.fn (body := rb47) rfl (by decide) ?_
  unfold rb47
  by_cases h1 : 1073741824 < x
  · simp [h1]
  · simp [h1]
theorem c51 {h : List O} {x : Int} : DR E 51 [.int .i64 x] ⟨h, h.length⟩ (.ret (.bool (decide (x < 0)))) ⟨h, h.length⟩ := by
  refine hE.fn (body := rb51) rfl (by decide) ?_
  unfold rb51
  simp
theorem c65 {h : List O} {x : Int} : DR E 65 [.int .i64 x] ⟨h, h.length⟩ (.ret (.bool (decide (x < 0)))) ⟨h, h.length⟩ := by
  refine hE.fn (body := rb65) rfl (by decide) ?_
  unfold rb65
  simp

theorem index64 {h : List O} {v : Value} {xs : List Int} {g : FuncId} {caps : List Value} {p : Int → Bool} (hv : Ints h v xs)
    (hg : ∀ x, DR E g (.int .i64 x :: caps) ⟨h, h.length⟩ (.ret (.bool (p x))) ⟨h, h.length⟩) :
    DR E 64 [v, .func (.func g) #[] caps.toArray] ⟨h, h.length⟩ (.ret (.int .i64 (firstI (fun i => p (nth xs i)) xs.length))) ⟨h, h.length⟩ := by
  refine hE.fn (body := rb64) rfl (by decide) ?_
  unfold rb64
  obtain ⟨a, b, o, c, rfl, h2, h3, h4, h5⟩ := hv
  simp
  refine DW_loop (fun k fr st => ∃ i : Nat, i + k = xs.length ∧ st = ⟨h, h.length⟩ ∧ get fr 0 = .slice a xs.length c ∧ get fr 1 = .func (.func g) #[] caps.toArray ∧ get fr 7 = .int .i64 xs.length ∧ get fr 8 = .int .i64 i ∧ ∀ j, j < i → p (nth xs j) = false) ?_ (k := xs.length) ?_
  · rintro k fr st ⟨i, hi, rfl, g0, g1, g7, g8, hall⟩
    by_cases hlt : i < xs.length
    · obtain rfl := h2 (by omega)
      simp [g0, g1, g7, g8, hlt, h3 i hlt, DC_of (hg (nth xs i))]
      cases hp : p (nth xs i) with
      | true => simp [firstI_found (p := fun i => p (nth xs i)) hlt hp hall]
      | false =>
        simp [g0, g1, g7, g8]
        refine ⟨k - 1, by omega, i + 1, by omega, by rw [w64_id] <;> omega, fun j hj => ?_⟩
        rcases Nat.lt_succ_iff_lt_or_eq.1 hj with hj | rfl
        · exact hall j hj
        · exact hp
    · have : i = xs.length := by omega
      subst this
      simp [g0, g1, g7, g8, firstI_none (p := fun i => p (nth xs i)) hall]
  · exact ⟨0, by simp⟩
theorem contains43 {h : List O} {v : Value} {xs : List Int} {g : FuncId} {caps : List Value} {p : Int → Bool} (hv : Ints h v xs)
    (hg : ∀ x, DR E g (.int .i64 x :: caps) ⟨h, h.length⟩ (.ret (.bool (p x))) ⟨h, h.length⟩) :
    DR E 43 [v, .func (.func g) #[] caps.toArray] ⟨h, h.length⟩ (.ret (.bool (decide (∃ i, i < xs.length ∧ p (nth xs i) = true)))) ⟨h, h.length⟩ := by
  refine hE.fn (body := rb43) rfl (by decide) ?_
  unfold rb43
  simp [DC_of (index64 hE hv hg)]
  rcases firstI_cases (fun i => p (nth xs i)) xs.length with ⟨i, h1, h2, h3, h4⟩ | ⟨h1, h2⟩
  · simp only [h4]
    have : (∃ i, i < xs.length ∧ p (nth xs i) = true) := ⟨i, h1, h2⟩
    simp [this]
  · simp only [h2]
    have : ¬ (∃ i, i < xs.length ∧ p (nth xs i) = true) := fun ⟨i, h3, h4⟩ => by simp [h1 i h3] at h4
    simp [this]
theorem large42 {h : List O} {v : Value} {xs : List Int} (hv : Ints h v xs) :
    DR E 42 [v] ⟨h, h.length⟩ (.ret (.bool (decide (¬ Within xs 1000000)))) ⟨h, h.length⟩ := by
  refine hE.fn (body := rb42) rfl (by decide) ?_
  unfold rb42
  simp [DC_of (contains43 hE (caps := []) hv fun x => c44 hE)]
  unfold Within
  have e : (∃ i, i < xs.length ∧ (nth xs i < -1000000 ∨ 1000000 < nth xs i)) ↔ ¬ ∀ (i : Nat), i < xs.length → -1000000 ≤ nth xs i ∧ nth xs i ≤ 1000000 := by
    constructor
    · rintro ⟨i, h1, h2⟩ hw
      have := hw i h1
      omega
    · intro hw
      refine Classical.byContradiction fun hn => hw fun i hi => Classical.byContradiction fun h => hn ⟨i, hi, ?_⟩
      omega
  rw [show decide (∃ i, i < xs.length ∧ (nth xs i < -1000000 ∨ 1000000 < nth xs i)) = decide (¬ ∀ (i : Nat), i < xs.length → -1000000 ≤ nth xs i ∧ nth xs i ≤ 1000000) from decide_eq_decide.2 e, decide_not]
  exact congrArg _ (decide_eq_decide.2 Iff.rfl)
end Go.Proofs.Ytdbkhecnkhjhpaa
