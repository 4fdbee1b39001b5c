/- The abstract run as a transformer of what is to hold: for every order in which a map is stepped through. -/
import Derived.Test.YtdbkhecnkhjhpaaAi16
namespace Go.Ai
open Go.RowKit
set_option linter.unusedSimpArgs false
set_option linter.unusedVariables false

abbrev CallP := FuncId → List Value → St → (Out → St → Prop) → Prop

def runL (call : CallP) : List ROper → Fr → St → (Ex → Fr → St → Prop) → Prop
  | [], fr, st, Q => Q .normal fr st
  | o :: os, fr, st, Q =>
    if wanted fr o.guard then
      match o.op with
      | .call f args => match target (ev fr f) (args.map (ev fr)) with
        | some (g, vs) => call g vs { st with fl := st.h.length } fun out st' => match out with
          | .ret v => runL call os (putD fr o.dst v) (joined st st') Q
          | .pan v => Q (.pan v) fr (joined st st')
        | none => False
      | .next it => match nextC (ev fr it) st with
        | some (r, b, since, seen, l) => (l = [] → runL call os (putD fr o.dst nextOver) st Q) ∧ ∀ en ∈ l, runL call os (putD fr o.dst (nextTo r b since seen en st).1) (nextTo r b since seen en st).2 Q
        | none => False
      | op => match step op (ev fr) st with
        | some (.val v, st') => runL call os (putD fr o.dst v) st' Q
        | some (.pan v, st') => Q (.pan v) fr st'
        | none => False
    else runL call os (putD fr o.dst undef) st Q

def endP (rf : RFun) (st : St) (Q : Out → St → Prop) : Ex → Fr → St → Prop
  | .normal, fr, st' | .ret, fr, st' => ∃ v, resV fr st'.h rf.res = some v ∧ Q (back st (.ret v) st').1 (back st (.ret v) st').2
  | .pan v, _, st' => Q (back st (.pan v) st').1 (back st (.pan v) st').2
  | .exit _, _, _ => False

def callPOf (F : FuncId → Option RFun) (X : R → Fr → St → (Ex → Fr → St → Prop) → Prop) : CallP := fun f args st Q =>
  match F f with
  | none => False
  | some rf => X rf.body args st (endP rf st Q)

def callPSig (S : FuncId → Option (List Value → St → Option (Out × St))) (c : CallP) : CallP := fun f args st Q =>
  match S f with
  | some s => match s args st with
    | some (o, st') => Q o st'
    | none => False
  | none => c f args st Q

def runP (E : Env) : Nat → R → Fr → St → (Ex → Fr → St → Prop) → Prop
  | 0, _, _, _, _ => False
  | _ + 1, .skip, fr, st, Q => Q .normal fr st
  | n + 1, .seq a b, fr, st, Q => runP E n a fr st fun e fr' st' => match e with
    | .normal => runP E n b fr' st' Q
    | e => Q e fr' st'
  | n + 1, .cond c t e, fr, st, Q =>
    match ev fr c with
    | .bool b => if b then runP E n t fr st Q else runP E n e fr st Q
    | _ => False
  | n + 1, .block id b, fr, st, Q => runP E n b fr st fun e fr' st' => match e with
    | .exit id' => if id' = id then Q .normal fr' st' else Q (.exit id') fr' st'
    | e => Q e fr' st'
  | n + 1, .loop b, fr, st, Q => runP E n b fr st fun e fr' st' => match e with
    | .normal => runP E n (.loop b) fr' st' Q
    | e => Q e fr' st'
  | _ + 1, .exit id, fr, st, Q => Q (.exit id) fr st
  | _ + 1, .ret, fr, st, Q => Q .ret fr st
  | n + 1, .ops false l, fr, st, Q => runL (callPSig E.S (callPOf E.F (runP E n))) l fr st Q
  | n + 1, .ops true l, fr, st, Q => match runOpsD (callSig E.S (callOf E.F (exec E n))) 0 [] l fr st with
    | some (e, fr', st') => Q e fr' st'
    | none => False

def callP (E : Env) (n : Nat) : CallP := callPSig E.S (callPOf E.F (runP E n))

/-- A transformer that follows a run. -/
theorem runL_of {call : CallF} {cp : CallP} (hcall : ∀ f args st o st' (Q : Out → St → Prop), call f args st = some (o, st') → Q o st' → cp f args st Q) :
    ∀ (l : List ROper) (fr : Fr) (st : St) (Q : Ex → Fr → St → Prop) e fr' st', runOps call l fr st = some (e, fr', st') → Q e fr' st' → runL cp l fr st Q := by
  intro l
  induction l with
  | nil =>
    intro fr st Q e fr' st' h hq
    simp only [runOps, Option.some.injEq, Prod.mk.injEq] at h
    obtain ⟨rfl, rfl, rfl⟩ := h
    exact hq
  | cons o os ih =>
    intro fr st Q e fr' st' h hq
    simp only [runOps] at h
    simp only [runL]
    split at h
    · rename_i hw
      rw [if_pos hw]
      cases hop : o.op <;> simp only [hop] at h ⊢
      case call f args =>
        unfold doCall at h
        split at h
        · rename_i v st1 hc
          split at hc
          · rename_i g vs ht
            rw [ht]
            exact hcall _ _ _ _ _ _ hc (ih _ _ _ _ _ _ h hq)
          · cases hc
        · rename_i v st1 hc
          split at hc
          · rename_i g vs ht
            rw [ht]
            simp only [Option.some.injEq, Prod.mk.injEq] at h
            obtain ⟨rfl, rfl, rfl⟩ := h
            exact hcall _ _ _ _ _ _ hc hq
          · cases hc
        · cases h
      case next it =>
        simp only [step] at h
        split at h
        · rename_i v st1 hs
          split at hs
          · rename_i r b since seen hn
            rw [hn]
            simp only [Option.some.injEq, Prod.mk.injEq, Res.val.injEq] at hs
            obtain ⟨rfl, rfl⟩ := hs
            exact ⟨fun _ => ih _ _ _ _ _ _ h hq, fun en hen => by simp at hen⟩
          · rename_i r b since seen en hn
            rw [hn]
            simp only [Option.some.injEq, Prod.mk.injEq, Res.val.injEq] at hs
            obtain ⟨rfl, rfl⟩ := hs
            refine ⟨fun hx => by simp at hx, fun en' hen => ?_⟩
            simp at hen
            subst hen
            exact ih _ _ _ _ _ _ h hq
          · cases hs
        · rename_i v st1 hs
          split at hs <;> simp at hs
        · cases h
      all_goals
        split at h
        · rename_i v st1 hs
          rw [hs]
          exact ih _ _ _ _ _ _ h hq
        · rename_i v st1 hs
          rw [hs]
          simp only [Option.some.injEq, Prod.mk.injEq] at h
          obtain ⟨rfl, rfl, rfl⟩ := h
          exact hq
        · cases h
    · rename_i hw
      rw [if_neg hw]
      exact ih _ _ _ _ _ _ h hq

theorem runP_of {E : Env} : ∀ (n : Nat) (r : R) (fr : Fr) (st : St) (Q : Ex → Fr → St → Prop) e fr' st', exec E n r fr st = some (e, fr', st') → Q e fr' st' → runP E n r fr st Q := by
  intro n
  induction n with
  | zero => intro r fr st Q e fr' st' h; simp [exec] at h
  | succ n ih =>
    intro r fr st Q e fr' st' h hq
    cases r with
    | skip => simp only [exec, Option.some.injEq, Prod.mk.injEq] at h; obtain ⟨rfl, rfl, rfl⟩ := h; exact hq
    | exit id => simp only [exec, Option.some.injEq, Prod.mk.injEq] at h; obtain ⟨rfl, rfl, rfl⟩ := h; exact hq
    | ret => simp only [exec, Option.some.injEq, Prod.mk.injEq] at h; obtain ⟨rfl, rfl, rfl⟩ := h; exact hq
    | seq a b =>
      simp only [exec] at h
      split at h
      · rename_i fr1 st1 h1
        exact ih _ _ _ _ _ _ _ h1 (ih _ _ _ _ _ _ _ h hq)
      · rename_i r' hne
        refine ih _ _ _ _ _ _ _ h ?_
        cases e with
        | normal => exact absurd h (hne fr' st')
        | _ => exact hq
    | cond c t el =>
      simp only [exec] at h
      simp only [runP]
      split at h
      · rename_i b hb
        rw [hb]
        cases b with
        | true => exact ih _ _ _ _ _ _ _ (by simpa using h) hq
        | false => exact ih _ _ _ _ _ _ _ (by simpa using h) hq
      · cases h
    | block id b =>
      simp only [exec] at h
      split at h
      · rename_i id' fr1 st1 h1
        refine ih _ _ _ _ _ _ _ h1 ?_
        split at h
        · rename_i hid
          simp only [Option.some.injEq, Prod.mk.injEq] at h
          obtain ⟨rfl, rfl, rfl⟩ := h
          simp only [hid, if_true]
          exact hq
        · rename_i hid
          simp only [Option.some.injEq, Prod.mk.injEq] at h
          obtain ⟨rfl, rfl, rfl⟩ := h
          simp only [hid, if_false]
          exact hq
      · rename_i r' hne
        refine ih _ _ _ _ _ _ _ h ?_
        cases e with
        | exit id' => exact absurd h (hne id' fr' st')
        | _ => exact hq
    | loop b =>
      simp only [exec] at h
      split at h
      · rename_i fr1 st1 h1
        exact ih _ _ _ _ _ _ _ h1 (ih _ _ _ _ _ _ _ h hq)
      · rename_i r' hne
        refine ih _ _ _ _ _ _ _ h ?_
        cases e with
        | normal => exact absurd h (hne fr' st')
        | _ => exact hq
    | ops draw l =>
      cases draw with
      | true =>
        simp only [exec] at h
        simp only [runP, h]
        exact hq
      | false =>
        simp only [exec] at h
        refine runL_of (fun f args s o s' Q hc hqq => ?_) l fr st Q e fr' st' h hq
        unfold callSig at hc
        unfold callPSig
        split at hc
        · rename_i sm hsm
          rw [hsm]
          show (match sm args s with | some (o, st') => Q o st' | none => False)
          rw [hc]
          exact hqq
        · rename_i hsm
          rw [hsm]
          unfold callOf at hc
          unfold callPOf
          split at hc
          · cases hc
          · rename_i rf hrf
            rw [hrf]
            split at hc
            · rename_i fr1 st1 h1
              simp only [Option.map_eq_some_iff] at hc
              obtain ⟨v, hv, hb⟩ := hc
              refine ih _ _ _ _ _ _ _ h1 ⟨v, hv, ?_⟩
              rw [hb]; exact hqq
            · rename_i fr1 st1 h1
              simp only [Option.map_eq_some_iff] at hc
              obtain ⟨v, hv, hb⟩ := hc
              refine ih _ _ _ _ _ _ _ h1 ⟨v, hv, ?_⟩
              rw [hb]; exact hqq
            · rename_i v fr1 st1 h1
              refine ih _ _ _ _ _ _ _ h1 ?_
              simp only [Option.some.injEq] at hc
              simp only [endP]
              rw [hc]; exact hqq
            · cases hc

end Go.Ai
