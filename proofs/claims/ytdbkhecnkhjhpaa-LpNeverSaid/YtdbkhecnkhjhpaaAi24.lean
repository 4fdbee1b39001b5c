/- What a step and a call of the abstract run keep. -/
import Derived.Test.YtdbkhecnkhjhpaaAi23
namespace Go.Ai
open Go.RowKit
set_option linter.unusedSimpArgs false
set_option linter.unusedVariables false
variable {P : Program} {ρ ρ' : RM} {w w' : World}

theorem step_kept {r : ROp} {e : Operand → Value} {st st' : St} {v : Value} (h : step r e st = some (.val v, st')) : KeptW st st' (fpOf r e st).w := by
  cases r
  case copy =>
    simp only [step] at h
    split at h
    · rename_i da dn dc sa sn sc hd hs
      simp only [bind, Option.bind_eq_some_iff] at h
      obtain ⟨a, _, h⟩ := h
      split at h
      · simp at h; obtain ⟨rfl, rfl⟩ := h; exact KeptW.refl _ _
      · split at h
        · simp only [Option.bind_eq_some_iff, Option.some.injEq, Prod.mk.injEq] at h
          obtain ⟨h1, hw, _, rfl⟩ := h
          exact KeptW.wr hw (by simp_all [fpOf, blk])
        · cases h
    · cases h
  case store =>
    simp only [step] at h
    split at h
    · simp only [bind, Option.ite_none_right_eq_some, Option.bind_eq_some_iff, Option.some.injEq, Prod.mk.injEq] at h
      obtain ⟨_, h1, hw, _, rfl⟩ := h
      exact KeptW.wr hw (by simp_all [fpOf, blk])
    · cases h
  case append =>
    simp only [step, Option.map_eq_some_iff, Prod.mk.injEq] at h
    obtain ⟨⟨v0, s0⟩, ha, _, rfl⟩ := h
    unfold appendV at ha
    split at ha
    · rename_i hs hx
      simp only [bind, Option.bind_eq_some_iff] at ha
      obtain ⟨_, _, ha⟩ := ha
      have := appendCells_kept ha
      simp only [fpOf, hs]
      exact this
    · cases ha
  case appendZ =>
    simp only [step, Option.map_eq_some_iff, Prod.mk.injEq] at h
    obtain ⟨⟨v0, s0⟩, ha, _, rfl⟩ := h
    unfold appendZV at ha
    split at ha
    · rename_i hs hx
      split at ha
      · have := appendCells_kept ha
        simp only [fpOf, hs]
        exact this
      · cases ha
    · cases ha
  case load n a => cases n <;> simp only [step] at h <;> split at h <;> simp at h <;> (obtain ⟨_, _, _, rfl⟩ := h; exact KeptW.refl _ _)
  case mapUpd =>
    simp only [step] at h
    split at h
    · split at h
      · simp only [bind, Option.bind_eq_some_iff, Option.some.injEq, Prod.mk.injEq] at h
        obtain ⟨f, _, _, rfl⟩ := h
        cases f <;> exact KeptW.set _ _ (by simp_all [fpOf, blk])
      · cases h
    · cases h
  case mapEntry =>
    simp only [step] at h
    split at h
    · split at h
      · simp only [bind, Option.bind_eq_some_iff] at h
        obtain ⟨f, _, h⟩ := h
        cases f <;> simp at h <;> obtain ⟨_, rfl⟩ := h
        · exact KeptW.set _ _ (by simp_all [fpOf, blk])
        · exact KeptW.floor _
      · cases h
    · cases h
  case entryStore =>
    simp only [step] at h
    split at h
    · split at h
      · split at h
        · simp at h; obtain ⟨_, rfl⟩ := h; exact KeptW.set _ _ (by simp_all [fpOf, blk])
        · cases h
      · cases h
    · cases h
  case delete =>
    simp only [step] at h
    split at h
    · split at h
      · simp only [bind, Option.bind_eq_some_iff, Option.some.injEq, Prod.mk.injEq] at h
        obtain ⟨f, _, _, rfl⟩ := h
        exact KeptW.set _ _ (by simp_all [fpOf, blk])
      · cases h
    · cases h
  case next it =>
    have hblk : ∀ r b since seen l, nextC (e it) st = some (r, b, since, seen, l) → blk (e it) = [r] := by
      intro r b since seen l hn
      unfold nextC at hn
      split at hn
      · rename_i r0 hit
        split at hn
        · split at hn
          · split at hn
            · simp only [Option.map_eq_some_iff, Prod.mk.injEq] at hn
              obtain ⟨_, _, rfl, _⟩ := hn
              simp [hit, blk]
            · cases hn
          · cases hn
        · cases hn
      · cases hn
    simp only [step] at h
    split at h
    · simp at h; obtain ⟨_, rfl⟩ := h; exact KeptW.refl _ _
    · rename_i r b since seen en hn
      simp at h; obtain ⟨_, rfl⟩ := h
      exact KeptW.set _ _ (by simp [fpOf, hblk _ _ _ _ _ hn])
    · cases h
  case buildSlice =>
    simp only [step] at h
    split at h
    · simp at h; obtain ⟨_, rfl⟩ := h; exact KeptW.refl _ _
    · simp [bind, Option.bind_eq_some_iff] at h
      obtain ⟨_, _, _, rfl⟩ := h
      exact KeptW.snoc _ _ _
  case eqNil =>
    simp only [step, Option.map_eq_some_iff, Prod.mk.injEq] at h
    obtain ⟨_, _, _, rfl⟩ := h
    exact KeptW.refl _ _
  all_goals
    simp only [step] at h
    (repeat' split at h) <;> simp [bind, Option.bind_eq_some_iff] at h
    all_goals first
      | (obtain ⟨_, rfl⟩ := h; first | exact KeptW.refl _ _ | exact KeptW.snoc _ _ _)
      | (obtain ⟨_, _, rfl⟩ := h; first | exact KeptW.refl _ _ | exact KeptW.snoc _ _ _)
      | (obtain ⟨_, _, _, rfl⟩ := h; first | exact KeptW.refl _ _ | exact KeptW.snoc _ _ _)
      | (obtain ⟨_, _, _, _, rfl⟩ := h; first | exact KeptW.refl _ _ | exact KeptW.snoc _ _ _)
      | (obtain ⟨_, _, _, _, _, rfl⟩ := h; first | exact KeptW.refl _ _ | exact KeptW.snoc _ _ _)

theorem KeptW.kept {st st' : St} {ws : List Nat} (h : KeptW st st' ws) : Kept st st' := ⟨h.fl, h.len, h.low⟩

/-- A panic's step changes nothing. -/
theorem step_kept' {r : ROp} {e : Operand → Value} {st st' : St} {x : Res} (h : step r e st = some (x, st')) : Kept st st' := by
  cases x with
  | val v => exact (step_kept h).kept
  | pan v => obtain ⟨_, _, _, _, _, _, rfl⟩ := step_pan_inv h; exact Kept.refl _

def CallKept (call : CallF) : Prop := ∀ f args st o st', call f args st = some (o, st') → Kept st st'

theorem joined_kept {st st' : St} (h : Kept { st with fl := st.h.length } st') : Kept st (joined st st') := by
  have hcase : (joined st st').fl ≤ st'.fl ∨ st.h.length ≤ st'.fl := by
    unfold joined
    by_cases h : st'.fl < st.h.length
    · left; simp only [h, if_true]; exact Nat.min_le_right _ _
    · right; omega
  refine ⟨?_, h.len, fun id h1 h2 => h.same id h1 ?_⟩
  · unfold joined
    by_cases h : st'.fl < st.h.length
    · simp only [h, if_true]; exact Nat.min_le_left _ _
    · simp only [h, if_false]; exact Nat.le_refl _
  · rcases hcase with hc | hc
    · exact Nat.lt_of_lt_of_le h2 hc
    · exact Nat.lt_of_lt_of_le h1 hc

theorem doCall_kept {call : CallF} (hc : CallKept call) {f : Operand} {args : List Operand} {e : Operand → Value} {st st' : St} {o : Out} (h : doCall call f args e st = some (o, st')) : Kept { st with fl := st.h.length } st' := by
  unfold doCall at h
  split at h
  · exact hc _ _ _ _ _ h
  · cases h

theorem runOps_kept {call : CallF} (hc : CallKept call) : ∀ (l : List ROper) (fr : Fr) (st : St) e fr' st', runOps call l fr st = some (e, fr', st') → Kept st st' := by
  intro l
  induction l with
  | nil => intro fr st e fr' st' h; simp only [runOps, Option.some.injEq, Prod.mk.injEq] at h; obtain ⟨_, _, rfl⟩ := h; exact Kept.refl _
  | cons o os ih =>
    intro fr st e fr' st' h
    simp only [runOps] at h
    split at h
    · cases hop : o.op <;> simp only [hop] at h
      case call f args =>
        split at h
        · rename_i v st1 h1
          exact (joined_kept (doCall_kept hc h1)).trans (ih _ _ _ _ _ h)
        · rename_i v st1 h1
          simp only [Option.some.injEq, Prod.mk.injEq] at h
          obtain ⟨_, _, rfl⟩ := h
          exact joined_kept (doCall_kept hc h1)
        · cases h
      all_goals
        split at h
        · rename_i v st1 hs
          exact (step_kept' hs).trans (ih _ _ _ _ _ h)
        · rename_i v st1 hs
          simp only [Option.some.injEq, Prod.mk.injEq] at h
          obtain ⟨_, _, rfl⟩ := h
          exact step_kept' hs
        · cases h
    · exact ih _ _ _ _ _ h

theorem opD_kept {call : CallF} (hc : CallKept call) {r : ROp} {e : Operand → Value} {st st' : St} {v : Value} {fp : FP} (h : opD call r e st = some (v, st', fp)) : Kept st st' := by
  unfold opD at h
  split at h
  · split at h
    · rename_i h1
      simp only [Option.some.injEq, Prod.mk.injEq] at h
      obtain ⟨_, rfl, _⟩ := h
      exact joined_kept (doCall_kept hc h1)
    · cases h
  · split at h
    · rename_i h1
      simp only [Option.some.injEq, Prod.mk.injEq] at h
      obtain ⟨_, rfl, _⟩ := h
      exact step_kept' h1
    · cases h

theorem runOpsD_kept {call : CallF} (hc : CallKept call) : ∀ (l : List ROper) (i : Nat) (acc : List (Nat × FP)) (fr : Fr) (st : St) e fr' st', runOpsD call i acc l fr st = some (e, fr', st') → Kept st st' := by
  intro l
  induction l with
  | nil => intro i acc fr st e fr' st' h; simp only [runOpsD, Option.some.injEq, Prod.mk.injEq] at h; obtain ⟨_, _, rfl⟩ := h; exact Kept.refl _
  | cons o os ih =>
    intro i acc fr st e fr' st' h
    simp only [runOpsD] at h
    split at h
    · split at h
      · rename_i h1
        split at h
        · cases h
        · exact (opD_kept hc h1).trans (ih _ _ _ _ _ _ _ h)
      · cases h
    · exact ih _ _ _ _ _ _ _ h

/-- Summaries keep. -/
def SumsKept (E : Env) : Prop := ∀ f s, E.S f = some s → ∀ args st o st', s args st = some (o, st') → Kept st st'

theorem back_kept {st st' : St} {o : Out} (h : Kept st st') : Kept st (back st o st').2 := by
  unfold back
  split
  · exact Kept.refl _
  · exact h

theorem callKept_of {E : Env} (hS : SumsKept E) {X : R → Fr → St → Option (Ex × Fr × St)} (hX : ∀ r fr st e fr' st', X r fr st = some (e, fr', st') → Kept st st') : CallKept (callSig E.S (callOf E.F X)) := by
  intro f args st o st' h
  unfold callSig at h
  split at h
  · rename_i s hs
    exact hS f s hs args st o st' h
  · unfold callOf at h
    split at h
    · cases h
    · split at h
      · rename_i h1
        simp only [Option.map_eq_some_iff] at h
        obtain ⟨v, _, hb⟩ := h
        have := back_kept (o := .ret v) (hX _ _ _ _ _ _ h1)
        rw [hb] at this; exact this
      · rename_i h1
        simp only [Option.map_eq_some_iff] at h
        obtain ⟨v, _, hb⟩ := h
        have := back_kept (o := .ret v) (hX _ _ _ _ _ _ h1)
        rw [hb] at this; exact this
      · rename_i v _ _ h1
        simp only [Option.some.injEq] at h
        have := back_kept (o := .pan v) (hX _ _ _ _ _ _ h1)
        rw [h] at this; exact this
      · cases h

theorem exec_kept {E : Env} (hS : SumsKept E) : ∀ (n : Nat) (r : R) (fr : Fr) (st : St) e fr' st', exec E n r fr st = some (e, fr', st') → Kept st st' := by
  intro n
  induction n with
  | zero => intro r fr st e fr' st' h; simp [exec] at h
  | succ n ih =>
    intro r fr st e fr' st' h
    cases r with
    | skip => simp only [exec, Option.some.injEq, Prod.mk.injEq] at h; obtain ⟨_, _, rfl⟩ := h; exact Kept.refl _
    | exit id => simp only [exec, Option.some.injEq, Prod.mk.injEq] at h; obtain ⟨_, _, rfl⟩ := h; exact Kept.refl _
    | ret => simp only [exec, Option.some.injEq, Prod.mk.injEq] at h; obtain ⟨_, _, rfl⟩ := h; exact Kept.refl _
    | seq a b =>
      simp only [exec] at h
      split at h
      · rename_i h1
        exact (ih _ _ _ _ _ _ h1).trans (ih _ _ _ _ _ _ h)
      · exact ih _ _ _ _ _ _ h
    | cond c t el =>
      simp only [exec] at h
      split at h
      · split at h <;> exact ih _ _ _ _ _ _ h
      · cases h
    | block id b =>
      simp only [exec] at h
      split at h
      · rename_i h1
        split at h <;> (simp only [Option.some.injEq, Prod.mk.injEq] at h; obtain ⟨_, _, rfl⟩ := h; exact ih _ _ _ _ _ _ h1)
      · exact ih _ _ _ _ _ _ h
    | loop b =>
      simp only [exec] at h
      split at h
      · rename_i h1
        exact (ih _ _ _ _ _ _ h1).trans (ih _ _ _ _ _ _ h)
      · exact ih _ _ _ _ _ _ h
    | ops draw l =>
      cases draw with
      | true => simp only [exec] at h; exact runOpsD_kept (callKept_of hS (ih)) _ _ _ _ _ _ _ _ h
      | false => simp only [exec] at h; exact runOps_kept (callKept_of hS (ih)) _ _ _ _ _ _ h

end Go.Ai
