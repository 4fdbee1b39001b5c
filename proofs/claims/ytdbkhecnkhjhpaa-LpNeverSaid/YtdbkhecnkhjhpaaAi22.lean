/- Regions that draw their order: the trace in the order of the text. -/
import Derived.Test.YtdbkhecnkhjhpaaAi21
namespace Go.Ai
open Go.RowKit
set_option linter.unusedSimpArgs false
set_option linter.unusedVariables false
variable {P : Program} {ρ ρ' : RM} {w w' : World}

structure TStep (call : CallF) (r : ROper) (fr : Fr) (st : St) (v : Value) (fr1 : Fr) (st1 : St) (fp : FP) : Prop where
  put : fr1 = putD fr r.dst v
  act : (wanted fr r.guard = false ∧ v = undef ∧ st1 = st ∧ fp = {}) ∨ (wanted fr r.guard = true ∧ opD call r.op (ev fr) st = some (v, st1, fp))

structure Trace (call : CallF) (l : List ROper) (i0 : Nat) (frs : Nat → Fr) (sts : Nat → St) (fps : Nat → FP) (vs : Nat → Value) : Prop where
  step : ∀ k r, l[k]? = some r → TStep call r (frs k) (sts k) (vs k) (frs (k + 1)) (sts (k + 1)) (fps k)
  clash : ∀ j k r, j < k → l[k]? = some r → r.anc.testBit (i0 + j) = false → (fps j).clash (fps k) = false

theorem hits_empty (x : FP) : x.hits {} = false := by
  cases x
  simp [FP.hits, FP.touches]
theorem empty_hits (x : FP) : FP.hits {} x = false := by simp [FP.hits]
theorem clash_empty (x : FP) : x.clash {} = false := by simp [FP.clash, hits_empty, empty_hits]
theorem empty_clash (x : FP) : FP.clash {} x = false := by simp [FP.clash, hits_empty, empty_hits]

def consN {α : Type} (a : α) (f : Nat → α) : Nat → α
  | 0 => a
  | n + 1 => f n

def TraceTo (call : CallF) (l : List ROper) (i : Nat) (acc : List (Nat × FP)) (fr : Fr) (st : St) (fr' : Fr) (st' : St) : Prop :=
  ∃ frs sts fps vs, Trace call l i frs sts fps vs ∧ frs 0 = fr ∧ sts 0 = st ∧ frs l.length = fr' ∧ sts l.length = st' ∧
    ∀ k r, l[k]? = some r → ∀ q ∈ acc, r.anc.testBit q.1 = false → q.2.clash (fps k) = false

theorem trace_of {call : CallF} : ∀ (l : List ROper) (i : Nat) (acc : List (Nat × FP)) (fr : Fr) (st : St) (e : Ex) (fr' : Fr) (st' : St), runOpsD call i acc l fr st = some (e, fr', st') → TraceTo call l i acc fr st fr' st' := by
  intro l
  induction l with
  | nil =>
    intro i acc fr st e fr' st' h
    simp only [runOpsD, Option.some.injEq, Prod.mk.injEq] at h
    obtain ⟨_, rfl, rfl⟩ := h
    exact ⟨fun _ => fr, fun _ => st, fun _ => {}, fun _ => undef, ⟨fun k r h => by simp at h, fun j k r _ h => by simp at h⟩, rfl, rfl, rfl, rfl, fun k r h => by simp at h⟩
  | cons o os ih =>
    intro i acc fr st e fr' st' h
    simp only [runOpsD] at h
    -- what one operation brings
    have fin : ∀ (v : Value) (st1 : St) (fp : FP) (acc1 : List (Nat × FP)), TStep call o fr st v (putD fr o.dst v) st1 fp → (∀ q ∈ acc, o.anc.testBit q.1 = false → q.2.clash fp = false) → ((i, fp) ∈ acc1 ∨ fp = {}) → (∀ q ∈ acc, q ∈ acc1) →
        runOpsD call (i + 1) acc1 os (putD fr o.dst v) st1 = some (e, fr', st') → TraceTo call (o :: os) i acc fr st fr' st' := fun v st1 fp acc1 hst hcl hin hsub hrun => by
      obtain ⟨frs, sts, fps, vs, htr, h0, h1, h2, h3, h4⟩ := ih _ _ _ _ _ _ _ hrun
      refine ⟨consN fr frs, consN st sts, consN fp fps, consN v vs, ⟨?_, ?_⟩, rfl, rfl, h2, h3, ?_⟩
      · intro k r hk
        cases k with
        | zero =>
          simp at hk; subst hk
          show TStep call o fr st v (frs 0) (sts 0) fp
          rw [h0, h1]; exact hst
        | succ k => exact htr.step k r (by simpa using hk)
      · intro j k r hjk hk hanc
        cases k with
        | zero => omega
        | succ k =>
          cases j with
          | zero =>
            rcases hin with hin | rfl
            · exact h4 k r (by simpa using hk) _ hin (by simpa using hanc)
            · exact empty_clash _
          | succ j => exact htr.clash j k r (by omega) (by simpa using hk) (by rw [show i + 1 + j = i + (j + 1) by omega]; exact hanc)
      · intro k r hk q hq hanc
        cases k with
        | zero => simp at hk; subst hk; exact hcl q hq hanc
        | succ k => exact h4 k r (by simpa using hk) q (hsub q hq) hanc
    split at h
    · rename_i hw
      split at h
      · rename_i v st1 fp hop
        split at h
        · cases h
        · rename_i hcl
          refine fin v st1 fp ((i, fp) :: acc) ⟨rfl, .inr ⟨hw, hop⟩⟩ ?_ (.inl (by simp)) (fun q hq => by simp [hq]) h
          intro q hq hanc
          simp only [clashes, List.any_eq_true, Bool.and_eq_true, Bool.not_eq_true', not_exists, not_and, Bool.not_eq_true] at hcl
          exact hcl q hq hanc
      · cases h
    · rename_i hw
      exact fin undef st {} acc ⟨rfl, .inl ⟨by simpa using hw, rfl, rfl, rfl⟩⟩ (fun q _ _ => clash_empty _) (.inr rfl) (fun q hq => hq) h

end Go.Ai
