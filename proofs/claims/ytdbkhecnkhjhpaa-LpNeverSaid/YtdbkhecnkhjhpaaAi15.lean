/- Memory as a whole; what a run does to it. -/
import Derived.Test.YtdbkhecnkhjhpaaAi14
namespace Go.Ai
open Go.RowKit
set_option linter.unusedSimpArgs false
set_option linter.unusedVariables false
variable {P : Program} {ρ : RM} {w : World}

theorem step_pan_inv {r : ROp} {e : Operand → Value} {st st' : St} {v : Value} (h : step r e st = some (.pan v, st')) : ∃ x t y, r = .panic x ∧ e x = .iface t y ∧ v = .iface t y ∧ st' = st := by
  cases r
  case panic x =>
    simp only [step] at h
    split at h
    · rename_i t y hx
      simp only [Option.some.injEq, Prod.mk.injEq, Res.pan.injEq] at h
      exact ⟨x, t, y, rfl, hx, h.1.symm, h.2.symm⟩
    · cases h
  case copy =>
    simp only [step] at h
    split at h
    · simp only [bind, Option.bind_eq_some_iff] at h
      obtain ⟨a, _, h⟩ := h
      (repeat' split at h) <;> simp [bind, Option.bind_eq_some_iff] at h
    · cases h
  case load n a => cases n <;> simp only [step] at h <;> split at h <;> simp at h
  case lookup => simp only [step] at h; (repeat' split at h) <;> simp [bind, Option.bind_eq_some_iff] at h
  case mapUpd => simp only [step] at h; (repeat' split at h) <;> simp [bind, Option.bind_eq_some_iff] at h
  case mapEntry =>
    simp only [step] at h
    split at h
    · split at h
      · simp only [bind, Option.bind_eq_some_iff] at h
        obtain ⟨f, _, h⟩ := h
        cases f <;> simp at h
      · cases h
    · cases h
  case buildSlice => simp only [step] at h; split at h <;> simp [bind, Option.bind_eq_some_iff] at h
  all_goals (simp only [step] at h; (repeat' split at h) <;> simp [bind, Option.bind_eq_some_iff] at h)

theorem cop_panic {o : Oper} {x : Operand} (hc : cop P o = some (.panic x)) : o.op = .panic x := by
  unfold cop at hc
  split at hc
  · cases hc
  cases hop : o.op <;> simp only [hop] at hc
  case panic y =>
    simp only [Option.some.injEq, ROp.panic.injEq] at hc
    rw [hc]
  case call c =>
    obtain ⟨callee, args, argTypes⟩ := c
    cases callee <;> (try simp only at hc)
    case builtin b => cases b <;> (try simp only at hc) <;> (repeat' split at hc) <;> simp at hc
    all_goals (try simp at hc)
  case build => unfold cbuild at hc; (repeat' split at hc) <;> simp at hc
  case binOp => unfold cbin at hc; (repeat' split at hc) <;> simp at hc
  case makeFunc fn a b => cases fn <;> (try simp only at hc) <;> (repeat' split at hc) <;> simp at hc
  case makeMap t r => cases r <;> simp at hc
  case next it b => cases b <;> simp at hc
  case typeAssert a b c d => cases d <;> (try simp only at hc) <;> (repeat' split at hc) <;> simp at hc
  all_goals ((repeat' split at hc) <;> simp at hc)

theorem step_pan {o : Oper} {r : ROp} {e e' : Operand → Value} {st st' : St} {v : Value} (hc : cop P o = some r) (hg : Given ρ o.op e e') (hs : step r e st = some (.pan v, st')) :
    st' = st ∧ ∃ v', (execOp e' o).run P w = .halt (.panic v') w ∧ VRel ρ v v' := by
  obtain ⟨x, t, y, rfl, hx, rfl, rfl⟩ := step_pan_inv hs
  refine ⟨rfl, ?_⟩
  have hop : o.op = .panic x := cop_panic hc
  rw [hop] at hg
  have hxv := hg.rel x (by simp [Op.operands])
  rw [hx] at hxv
  obtain ⟨y', hy, hyv⟩ := hxv.inv_iface
  refine ⟨.iface t y', ?_, .iface hyv⟩
  simp [execOp, hop, hy, Instr.panic, Sem.run_bind, goPanic]

/-! ### Blocks that are only read -/
def O.ro : O → Bool
  | .cells _ _ none => true
  | _ => false
theorem O.ro_of_own {o : O} (h : o.own = true) : o.ro = false := by
  cases o with
  | cells c e own => cases own <;> simp_all [O.own, O.ro]
  | _ => rfl

abbrev RoKept (h h' : List O) : Prop := ∀ (id : Nat) (o : O), h'[id]? = some o → o.ro = true → h[id]? = some o
theorem RoKept.refl (h : List O) : RoKept h h := fun _ _ a _ => a
theorem RoKept.set {h : List O} {b : Nat} {x : O} (hx : x.ro = false) : RoKept h (h.set b x) := by
  intro id o ho hro
  by_cases hb : b = id
  · subst hb
    rw [List.getElem?_set] at ho
    simp at ho
    obtain ⟨_, rfl⟩ := ho
    rw [hx] at hro; cases hro
  · rwa [List.getElem?_set_ne hb] at ho
theorem RoKept.snoc {h : List O} {x : O} (hx : x.ro = false) : RoKept h (h ++ [x]) := by
  intro id o ho hro
  by_cases hid : id < h.length
  · rwa [List.getElem?_append_left hid] at ho
  · rw [List.getElem?_append_right (by omega)] at ho
    have := (List.getElem?_eq_some_iff.1 ho).1
    simp at this
    have e : id - h.length = 0 := by omega
    rw [e] at ho
    simp at ho
    subst ho
    rw [hx] at hro; cases hro
theorem RoKept.trans {a b c : List O} (h : RoKept a b) (k : RoKept b c) : RoKept a c := fun id o ho hr => h id o (k id o ho hr) hr
theorem wrN_ro {h h' : List O} {b i : Nat} {vs : List Value} (hw : wrN h b i vs = some h') : RoKept h h' := by
  unfold wrN at hw
  split at hw
  · split at hw
    · obtain rfl := Option.some.inj hw
      exact RoKept.set rfl
    · cases hw
  · cases hw
theorem kill_ro {st st' : St} {elem : TypeId} {size : Nat} {base : Option Addr} (h : kill st elem size base = some st') : RoKept st.h st'.h := by
  unfold kill at h
  (repeat' split at h) <;> first
    | (cases h; done)
    | (obtain rfl := Option.some.inj h; exact RoKept.refl _)
    | (obtain rfl := Option.some.inj h; exact RoKept.set rfl)
theorem appendCells_ro {elem : TypeId} {size b sLen sCap n : Nat} {base : Option Addr} {new : List Value} {st st' : St} {v : Value} (ha : appendCells elem size b base sLen sCap n new st = some (v, st')) : RoKept st.h st'.h := by
  unfold appendCells at ha
  split at ha
  · obtain ⟨rfl, rfl⟩ := Prod.mk.inj (Option.some.inj ha)
    exact RoKept.refl _
  · split at ha
    · split at ha
      · simp only [bind, Option.bind_eq_some_iff, Option.some.injEq, Prod.mk.injEq] at ha
        obtain ⟨h1, hw, rfl, rfl⟩ := ha
        exact wrN_ro hw
      · cases ha
    · split at ha
      · simp only [bind, Option.bind_eq_some_iff, Option.some.injEq, Prod.mk.injEq] at ha
        obtain ⟨old, hold, st1, hkill, rfl, rfl⟩ := ha
        exact (kill_ro hkill).trans (RoKept.snoc rfl)
      · cases ha

theorem step_ro {r : ROp} {e : Operand → Value} {st st' : St} {v : Value} (h : step r e st = some (.val v, st')) : RoKept st.h st'.h := by
  cases r
  case copy =>
    simp only [step] at h
    split at h
    · simp only [bind, Option.bind_eq_some_iff] at h
      obtain ⟨a, _, h⟩ := h
      split at h
      · simp at h; obtain ⟨rfl, rfl⟩ := h; exact RoKept.refl _
      · split at h
        · simp only [Option.bind_eq_some_iff, Option.some.injEq, Prod.mk.injEq] at h
          obtain ⟨h1, hw, _, rfl⟩ := h
          exact wrN_ro hw
        · cases h
    · cases h
  case store =>
    simp only [step] at h
    split at h
    · simp only [bind, Option.ite_none_right_eq_some, Option.bind_eq_some_iff, Option.some.injEq, Prod.mk.injEq] at h
      obtain ⟨_, h1, hw, _, rfl⟩ := h
      exact wrN_ro hw
    · cases h
  case append =>
    simp only [step, Option.map_eq_some_iff, Prod.mk.injEq] at h
    obtain ⟨⟨v0, s0⟩, ha, _, rfl⟩ := h
    unfold appendV at ha
    split at ha
    · simp only [bind, Option.bind_eq_some_iff] at ha
      obtain ⟨_, _, ha⟩ := ha
      exact appendCells_ro ha
    · cases ha
  case appendZ =>
    simp only [step, Option.map_eq_some_iff, Prod.mk.injEq] at h
    obtain ⟨⟨v0, s0⟩, ha, _, rfl⟩ := h
    unfold appendZV at ha
    (repeat' split at ha) <;> first
      | (cases ha; done)
      | exact appendCells_ro ha
  case load n a => cases n <;> simp only [step] at h <;> split at h <;> simp at h <;> (obtain ⟨_, _, _, rfl⟩ := h; exact RoKept.refl _)
  case mapUpd =>
    simp only [step] at h
    split at h
    · split at h
      · simp only [bind, Option.bind_eq_some_iff, Option.some.injEq, Prod.mk.injEq] at h
        obtain ⟨f, _, _, rfl⟩ := h
        cases f <;> exact RoKept.set rfl
      · cases h
    · cases h
  case mapEntry =>
    simp only [step] at h
    split at h
    · split at h
      · simp only [bind, Option.bind_eq_some_iff] at h
        obtain ⟨f, _, h⟩ := h
        cases f <;> simp at h <;> obtain ⟨_, rfl⟩ := h
        · exact RoKept.set rfl
        · exact RoKept.refl _
      · cases h
    · cases h
  case delete =>
    simp only [step] at h
    split at h
    · split at h
      · simp only [bind, Option.bind_eq_some_iff, Option.some.injEq, Prod.mk.injEq] at h
        obtain ⟨f, _, _, rfl⟩ := h
        exact RoKept.set rfl
      · cases h
    · cases h
  case next =>
    simp only [step] at h
    split at h
    · simp at h; obtain ⟨_, rfl⟩ := h; exact RoKept.refl _
    · simp at h; obtain ⟨_, rfl⟩ := h; exact RoKept.set rfl
    · cases h
  case eqNil =>
    simp only [step, Option.map_eq_some_iff, Prod.mk.injEq] at h
    obtain ⟨_, _, _, rfl⟩ := h
    exact RoKept.refl _
  case buildSlice =>
    simp only [step] at h
    split at h
    · simp at h; obtain ⟨_, rfl⟩ := h; exact RoKept.refl _
    · simp [bind, Option.bind_eq_some_iff] at h
      obtain ⟨_, _, _, rfl⟩ := h
      exact RoKept.snoc rfl
  all_goals
    simp only [step] at h
    (repeat' split at h) <;> simp [bind, Option.bind_eq_some_iff] at h
    all_goals first
      | (obtain ⟨_, rfl⟩ := h; first | exact RoKept.refl _ | exact RoKept.snoc rfl | exact RoKept.set rfl)
      | (obtain ⟨_, _, rfl⟩ := h; first | exact RoKept.refl _ | exact RoKept.snoc rfl | exact RoKept.set rfl)
      | (obtain ⟨_, _, _, rfl⟩ := h; first | exact RoKept.refl _ | exact RoKept.snoc rfl | exact RoKept.set rfl)
      | (obtain ⟨_, _, _, _, rfl⟩ := h; first | exact RoKept.refl _ | exact RoKept.snoc rfl | exact RoKept.set rfl)
      | (obtain ⟨_, _, _, _, _, rfl⟩ := h; first | exact RoKept.refl _ | exact RoKept.snoc rfl | exact RoKept.set rfl)

end Go.Ai
