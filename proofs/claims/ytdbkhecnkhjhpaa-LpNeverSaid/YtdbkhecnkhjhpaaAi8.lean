/- append, copy, len, max, min, and small ones, as the machine has them. -/
import Derived.Test.YtdbkhecnkhjhpaaAi7
namespace Go.Ai
open Go.RowKit
set_option linter.unusedSimpArgs false
set_option linter.unusedVariables false
variable {P : Program} {ρ : RM} {w : World}

theorem zeroValue_any {t : TypeId} {z : Value} (h : (zeroValue t).run P w = .ok z w) (w' : World) : (zeroValue t).run P w' = .ok z w' := by
  unfold zeroValue typeInfo at *
  simp only [Sem.run_bind, run_program, Result.andThen_ok] at *
  cases hi : P.info? t with
  | none => simp [hi] at h
  | some i =>
    cases hz : i.zero with
    | none => simp [hi, hz] at h
    | some z' => simp [hi, hz] at h ⊢; exact h

theorem run_append_slices {st xt elem ty : TypeId} {size b sLen sCap n : Nat} {base : Option Addr} {x' z : Value} {xe : TypeId} {new' : Array Value} (hu : P.underlying st = some (.slice elem)) (hxt : P.underlying xt = some (.slice xe))
    (hs : sizeC P elem = some size) (hb : bytesC P elem = some b) (h0 : 0 < b) (hz : (zeroValue elem).run P w = .ok z w)
    (hlen : Builtin.lenOf x' = (pure n : Sem Nat)) (hc0 : (Builtin.firstCells size n x').run P w = .ok new' w) (hc1 : (Builtin.firstCells size n x').run P w.drew = .ok new' w.drew)
    (hold : ¬ sLen + n ≤ sCap → ∃ old' : Array Value, (Builtin.firstCells size sLen (.slice base sLen sCap)).run P w.drew = .ok old' w.drew)
    (hbound : sLen + n ≤ sCap ∨ ((sLen + n) * b ≤ roomMax ∧ ¬ sLen + n ≤ sCap ∧ n ≠ 0)) :
    (Builtin.append_ #[st, xt] ty #[.slice base sLen sCap, x']).run P w = (appendRun elem size sLen sCap n base (.slice base sLen sCap) new' z.cells b).run P w := by
  obtain ⟨i, hi, hib⟩ := bytes_run hb
  by_cases hle : sLen + n ≤ sCap
  · simp [Builtin.append_, appendRun, Sem.run_bind, run_underlying hu, run_underlying hxt, run_size hs, hlen, hle, hc0]
    cases base <;> rfl
  · obtain ⟨h1, _, h3⟩ := hbound.resolve_left hle
    obtain ⟨old', hold⟩ := hold hle
    have h2 : ¬ Builtin.nextslicecap (sLen + n) sCap * b > 2 ^ 48 := by
      have := Nat.mul_le_mul_right b (nextslicecap_le (need := sLen + n) (c := sCap) (by omega))
      rw [Nat.mul_assoc] at this
      simp only [roomMax] at h1
      omega
    have h4 : ¬ b = 0 := by omega
    have hz1 := zeroValue_any hz w.drew
    simp [Builtin.append_, appendRun, Sem.run_bind, run_underlying hu, run_underlying hxt, run_size hs, hlen, hle, typeInfo, hi, hib, h2, h4, Question.forced, hc1, hz1, hold]

theorem run_append_zeros {st xt elem ty : TypeId} {size b sLen sCap n : Nat} {base : Option Addr} {z : Value} {q : IntKind} (hu : P.underlying st = some (.slice elem)) (hxt : P.underlying xt = some (.int q))
    (hs : sizeC P elem = some size) (hb : bytesC P elem = some b) (h0 : 0 < b) (hz : (zeroValue elem).run P w = .ok z w) (hzs : z.cells.size = size) (hnb : n * b ≤ 2 ^ 47)
    (hold : ¬ sLen + n ≤ sCap → ∃ old' : Array Value, (Builtin.firstCells size sLen (.slice base sLen sCap)).run P w.drew = .ok old' w.drew)
    (hbound : sLen + n ≤ sCap ∨ ((sLen + n) * b ≤ roomMax ∧ ¬ sLen + n ≤ sCap ∧ n ≠ 0)) :
    (Builtin.append_ #[st, xt] ty #[.slice base sLen sCap, .int .i64 n]).run P w = (appendRun elem size sLen sCap n base (.slice base sLen sCap) (Builtin.zeroCells z.cells n) z.cells b).run P w := by
  obtain ⟨i, hi, hib⟩ := bytes_run hb
  have hn : n ≤ 2 ^ 47 := Nat.le_trans (Nat.le_mul_of_pos_right n h0) hnb
  have hwr : IntKind.i64.wrap (n : Int) = n := IntWalk.i64_in _ (by omega)
  have hb48 : ¬ (n : Int) * (b : Int) > 2 ^ 48 := by
    have : (n : Int) * (b : Int) = ((n * b : Nat) : Int) := by simp
    rw [this]
    omega
  have hb48' : ¬ (281474976710656 : Int) < (n : Int) * (b : Int) := hb48
  have hneg : ¬ (n : Int) < 0 := by omega
  have hzl : ∀ w' : World, (zeroValue elem).run P w' = .ok z w' := zeroValue_any hz
  have hzc : n * size = 0 → Builtin.zeroCells z.cells n = #[] := fun h => by
    apply Array.size_eq_zero_iff.1
    simp [Builtin.zeroCells, hzs, h]
  by_cases hle : sLen + n ≤ sCap
  · by_cases hns : n * size = 0
    · have hns' : n = 0 ∨ size = 0 := Nat.mul_eq_zero.1 hns
      simp [Builtin.append_, appendRun, Sem.run_bind, run_underlying hu, run_underlying hxt, run_size hs, hle, asInt, asIntOf, hwr, typeInfo, hi, hib, hb48', hneg, hns, hns', hzc hns]
      cases base <;> rfl
    · have hns' : ¬ (n = 0 ∨ size = 0) := fun h => hns (Nat.mul_eq_zero.2 h)
      simp [Builtin.append_, appendRun, Sem.run_bind, run_underlying hu, run_underlying hxt, run_size hs, hle, asInt, asIntOf, hwr, typeInfo, hi, hib, hb48', hneg, hns, hns', hzl]
      cases base <;> rfl
  · obtain ⟨h1, _, h3⟩ := hbound.resolve_left hle
    obtain ⟨old', hold⟩ := hold hle
    have h2 : ¬ Builtin.nextslicecap (sLen + n) sCap * b > 2 ^ 48 := by
      have := Nat.mul_le_mul_right b (nextslicecap_le (need := sLen + n) (c := sCap) (by omega))
      rw [Nat.mul_assoc] at this
      simp only [roomMax] at h1
      omega
    have h4 : ¬ b = 0 := by omega
    have h5 : ¬ ((sLen + n : Nat) : Int) > IntKind.i64.max := by
      have : (sLen + n) * 1 ≤ (sLen + n) * b := Nat.mul_le_mul_left _ h0
      simp only [roomMax] at h1
      have : IntKind.i64.max = 9223372036854775807 := by decide
      rw [this]
      omega
    have h5' : ¬ (9223372036854775807 : Int) < (sLen : Int) + (n : Int) := by
      have e : IntKind.i64.max = 9223372036854775807 := by decide
      rw [e] at h5
      omega
    by_cases hns : n * size = 0
    · have hns' : n = 0 ∨ size = 0 := Nat.mul_eq_zero.1 hns
      simp [Builtin.append_, appendRun, Sem.run_bind, run_underlying hu, run_underlying hxt, run_size hs, hle, asInt, asIntOf, hwr, typeInfo, hi, hib, hb48', hneg, hns, hns', hzl, hzc hns, h2, h4, h5', Question.forced, hold]
    · have hns' : ¬ (n = 0 ∨ size = 0) := fun h => hns (Nat.mul_eq_zero.2 h)
      simp [Builtin.append_, appendRun, Sem.run_bind, run_underlying hu, run_underlying hxt, run_size hs, hle, asInt, asIntOf, hwr, typeInfo, hi, hib, hb48', hneg, hns, hns', hzl, h2, h4, h5', Question.forced, hold]

end Go.Ai
