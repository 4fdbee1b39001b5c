/- What the abstract run keeps; the ancestors of an operation. -/
import Derived.Test.YtdbkhecnkhjhpaaAi22
namespace Go.Ai
open Go.RowKit
set_option linter.unusedSimpArgs false
set_option linter.unusedVariables false
variable {P : Program} {ρ ρ' : RM} {w w' : World}

/-! ### Ancestors -/
def befVal (acc : Array Nat) (o : Oper) : Nat := o.after.foldl (fun s e => if Region.binds .any e then s ||| 2 ^ e.on ||| acc.getD e.on 0 else s) 0
def befStep (acc : Array Nat) (o : Oper) : Array Nat := acc.push (befVal acc o)
theorem before_eq (ops : Array Oper) : Region.before ops = ops.toList.foldl befStep #[] := by
  unfold Region.before
  rw [← Array.foldl_toList]
  rfl
theorem befStep_keep : ∀ (l : List Oper) (A : Array Nat) (k : Nat), k < A.size → (l.foldl befStep A).getD k 0 = A.getD k 0 := by
  intro l
  induction l with
  | nil => intro A k _; rfl
  | cons o l ih =>
    intro A k hk
    rw [List.foldl_cons, ih _ _ (by simp [befStep]; omega)]
    unfold befStep
    simp only [Array.getD_eq_getD_getElem?]
    rw [Array.getElem?_push_lt hk]
    simp [hk]
theorem befStep_size : ∀ (l : List Oper) (A : Array Nat), (l.foldl befStep A).size = A.size + l.length := by
  intro l
  induction l with
  | nil => intro A; rfl
  | cons o l ih => intro A; rw [List.foldl_cons, ih]; simp [befStep]; omega
theorem befVal_bit {acc : Array Nat} {o : Oper} {j : Nat} (h : (befVal acc o).testBit j = true) : ∃ e ∈ o.after, Region.binds .any e = true ∧ (e.on = j ∨ (acc.getD e.on 0).testBit j = true) := by
  have key : ∀ (l : List Edge) (s : Nat), (l.foldl (fun s e => if Region.binds .any e then s ||| 2 ^ e.on ||| acc.getD e.on 0 else s) s).testBit j = true →
      s.testBit j = true ∨ ∃ e ∈ l, Region.binds .any e = true ∧ (e.on = j ∨ (acc.getD e.on 0).testBit j = true) := by
    intro l
    induction l with
    | nil => intro s h; exact .inl h
    | cons e l ih =>
      intro s h
      rw [List.foldl_cons] at h
      rcases ih _ h with h1 | ⟨e', h1, h2⟩
      · split at h1
        · rename_i hb
          rw [Nat.testBit_or, Nat.testBit_or, Bool.or_eq_true, Bool.or_eq_true] at h1
          rcases h1 with (h1 | h1) | h1
          · exact .inl h1
          · rw [Nat.testBit_two_pow] at h1
            exact .inr ⟨e, by simp, hb, .inl (by simpa using h1)⟩
          · exact .inr ⟨e, by simp, hb, .inr h1⟩
        · exact .inl h1
      · exact .inr ⟨e', by simp [h1], h2⟩
  unfold befVal at h
  rw [← Array.foldl_toList] at h
  rcases key _ _ h with h1 | ⟨e, h1, h2⟩
  · simp at h1
  · exact ⟨e, by simpa using h1, h2⟩

theorem before_spec {ops : Array Oper} {i j : Nat} {o : Oper} (ho : ops[i]? = some o) (h : ((Region.before ops).getD i 0).testBit j = true) :
    ∃ e ∈ o.after, Region.binds .any e = true ∧ (e.on = j ∨ ((Region.before ops).getD e.on 0).testBit j = true) := by
  have hi : i < ops.toList.length := by simpa using (Array.getElem?_eq_some_iff.1 ho).1
  have hoi : ops.toList[i] = o := by
    have := (Array.getElem?_eq_some_iff.1 ho).2
    simpa using this
  have hsplit : ops.toList = ops.toList.take i ++ o :: ops.toList.drop (i + 1) := by
    rw [← hoi]; exact (List.take_append_drop i ops.toList).symm.trans (by rw [List.drop_eq_getElem_cons hi])
  have hA : ((ops.toList.take i).foldl befStep #[]).size = i := by
    have hi' : i < ops.size := by simpa using hi
    rw [befStep_size]; simp; omega
  have hfin : Region.before ops = (ops.toList.drop (i + 1)).foldl befStep (befStep ((ops.toList.take i).foldl befStep #[]) o) := by
    rw [before_eq]
    conv => lhs; rw [hsplit]
    rw [List.foldl_append, List.foldl_cons]
  generalize (ops.toList.take i).foldl befStep #[] = A at hA hfin
  have hval : (Region.before ops).getD i 0 = befVal A o := by
    rw [hfin, befStep_keep _ _ _ (by simp [befStep, hA])]
    unfold befStep
    simp [Array.getD_eq_getD_getElem?, ← hA]
  rw [hval] at h
  obtain ⟨e, he, hb, h1⟩ := befVal_bit h
  refine ⟨e, he, hb, ?_⟩
  rcases h1 with h1 | h1
  · exact .inl h1
  · right
    by_cases hlt : e.on < A.size
    · rw [hfin, befStep_keep _ _ _ (by simp [befStep]; omega)]
      unfold befStep
      simp only [Array.getD_eq_getD_getElem?]
      rw [Array.getElem?_push_lt hlt]
      simpa [Array.getD_eq_getD_getElem?, hlt] using h1
    · simp [Array.getD_eq_getD_getElem?, Array.getElem?_eq_none (Nat.not_lt.1 hlt)] at h1

/-! ### What is kept -/
structure Kept (st st' : St) : Prop where
  fl : st'.fl ≤ st.fl
  len : st.h.length ≤ st'.h.length
  same : ∀ id, id < st.h.length → id < st'.fl → st'.h[id]? = st.h[id]?
theorem Kept.refl (st : St) : Kept st st := ⟨Nat.le_refl _, Nat.le_refl _, fun _ _ _ => rfl⟩
theorem Kept.trans {a b c : St} (h : Kept a b) (k : Kept b c) : Kept a c :=
  ⟨Nat.le_trans k.fl h.fl, Nat.le_trans h.len k.len, fun id h1 h2 => (k.same id (Nat.lt_of_lt_of_le h1 h.len) h2).trans (h.same id h1 (Nat.lt_of_lt_of_le h2 k.fl))⟩

/-- A step: what it writes is in its footprint. -/
structure KeptW (st st' : St) (ws : List Nat) : Prop where
  fl : st'.fl ≤ st.fl
  len : st.h.length ≤ st'.h.length
  same : ∀ id, id < st.h.length → id ∉ ws → st'.h[id]? = st.h[id]?
  low : ∀ id, id < st.h.length → id < st'.fl → st'.h[id]? = st.h[id]?
theorem KeptW.refl (st : St) (ws : List Nat) : KeptW st st ws := ⟨Nat.le_refl _, Nat.le_refl _, fun _ _ _ => rfl, fun _ _ _ => rfl⟩
theorem KeptW.snoc (st : St) (o : O) (ws : List Nat) : KeptW st { st with h := st.h ++ [o] } ws :=
  ⟨Nat.le_refl _, by simp, fun id h _ => List.getElem?_append_left h, fun id h _ => List.getElem?_append_left h⟩
theorem KeptW.set (st : St) {b : Nat} (o : O) {ws : List Nat} (hb : b ∈ ws) : KeptW st { st with h := st.h.set b o, fl := min st.fl b } ws := by
  refine ⟨Nat.min_le_left _ _, by simp, fun id _ hn => List.getElem?_set_ne (fun e => ?_), fun id _ hl => List.getElem?_set_ne (fun e => ?_)⟩
  · subst e; exact hn hb
  · subst e
    have h1 : b < min st.fl b := hl
    have h2 : min st.fl b ≤ b := Nat.min_le_right _ _
    omega
theorem KeptW.floor (st : St) {b : Nat} {ws : List Nat} : KeptW st { st with fl := min st.fl b } ws :=
  ⟨Nat.min_le_left _ _, Nat.le_refl _, fun _ _ _ => rfl, fun _ _ _ => rfl⟩
theorem KeptW.wr {st : St} {h' : List O} {b i : Nat} {vs : List Value} {ws : List Nat} (hw : wrN st.h b i vs = some h') (hb : b ∈ ws) : KeptW st { st with h := h', fl := min st.fl b } ws := by
  unfold wrN at hw
  split at hw
  · split at hw
    · obtain rfl := Option.some.inj hw
      exact KeptW.set st _ hb
    · cases hw
  · cases hw

theorem appendCells_kept {elem : TypeId} {size b sLen sCap n : Nat} {base : Option Addr} {new : List Value} {st st' : St} {v : Value} (ha : appendCells elem size b base sLen sCap n new st = some (v, st')) : KeptW st st' (blk (.slice base sLen sCap)) := by
  unfold appendCells at ha
  split at ha
  · obtain ⟨rfl, rfl⟩ := Prod.mk.inj (Option.some.inj ha)
    exact KeptW.refl _ _
  · split at ha
    · split at ha
      · simp only [bind, Option.bind_eq_some_iff, Option.some.injEq, Prod.mk.injEq] at ha
        obtain ⟨h1, hw, rfl, rfl⟩ := ha
        exact KeptW.wr hw (by simp [blk])
      · cases ha
    · split at ha
      · simp only [bind, Option.bind_eq_some_iff, Option.some.injEq, Prod.mk.injEq] at ha
        obtain ⟨old, hold, st1, hkill, rfl, rfl⟩ := ha
        have hk : KeptW st st1 (blk (.slice base sLen sCap)) := by
          unfold kill at hkill
          (repeat' split at hkill) <;> first
            | (cases hkill; done)
            | (obtain rfl := Option.some.inj hkill; exact KeptW.refl _ _)
            | (obtain rfl := Option.some.inj hkill; exact KeptW.set st _ (by simp [blk]))
        have hs := KeptW.snoc st1 (.cells (old ++ new) elem (some size)) (blk (.slice base sLen sCap))
        exact ⟨Nat.le_trans hs.fl hk.fl, Nat.le_trans hk.len hs.len, fun id h1 h2 => (hs.same id (Nat.lt_of_lt_of_le h1 hk.len) h2).trans (hk.same id h1 h2), fun id h1 h2 => (hs.low id (Nat.lt_of_lt_of_le h1 hk.len) h2).trans (hk.low id h1 (Nat.lt_of_lt_of_le h2 hs.fl))⟩
      · cases ha

end Go.Ai
