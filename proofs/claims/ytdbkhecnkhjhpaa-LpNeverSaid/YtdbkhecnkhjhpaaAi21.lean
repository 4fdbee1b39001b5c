/- Whatever the abstract run says, the machine does. -/
import Derived.Test.YtdbkhecnkhjhpaaAi20
namespace Go.Ai
open Go.RowKit
set_option linter.unusedSimpArgs false
set_option linter.unusedVariables false
variable {P : Program} {ρ ρ' : RM} {w w' : World} {D : List Deferred}

theorem loop_rounds {F : Fence} {B : Nat} {E : Env} : ∀ (m : Nat), (∀ j, j < m → RunOk F P B E j) → ∀ (n nt : Nat) (c : Code) (R : R) (fr : Fr) (st : St) (Q : Ex → Fr → St → Prop) (a : Act) (w : World) (ρ : RM) (Q' : Exit → Act → World → Prop),
    compile P nt c = some R → runP E m (.loop R) fr st Q → FRel D ρ nt fr a → SRel B ρ w st →
    (∀ ex fr' st' ρ' e a' w', Q ex fr' st' → XRel ρ' ex e → FRel D ρ' nt fr' a' → SRel B ρ' w' st' → Ran B ρ ρ' w w' st st' → Q' e a' w') → Code.roundsIn F n P c Q' m a w := by
  intro m
  induction m with
  | zero => intro _ n nt c R fr st Q a w ρ Q' hc hr; exact hr.elim
  | succ m ih =>
    intro hR n nt c R fr st Q a w ρ Q' hc hr hf hS hQ
    rw [roundsIn_succ]
    refine hR m (Nat.lt_succ_self m) n nt c R fr st _ a w ρ _ hc hr hf hS fun ex fr' st' ρ' e a' w' hq hx hf' hS' hran => ?_
    cases ex with
    | normal =>
      cases e <;> simp only [XRel] at hx
      exact ih (fun j hj => hR j (Nat.lt_succ_of_lt hj)) n nt c R fr' st' Q a' w' ρ' Q' hc hq hf' hS' fun ex fr2 st2 ρ2 e a2 w2 q1 q2 q3 q4 q5 => hQ ex fr2 st2 ρ2 e a2 w2 q1 q2 q3 q4 (hran.trans q5)
    | exit id => cases e <;> simp only [XRel] at hx; exact hQ (.exit id) fr' st' ρ' _ a' w' hq hx hf' hS' hran
    | ret => cases e <;> simp only [XRel] at hx; exact hQ .ret fr' st' ρ' _ a' w' hq trivial hf' hS' hran
    | pan v => cases e <;> simp only [XRel] at hx; exact hQ (.pan v) fr' st' ρ' _ a' w' hq hx hf' hS' hran

theorem runOk {F : Fence} (hF : Open F) (hro : F.round = none) {B : Nat} {E : Env} (hE : EnvOk F P B E) {K : CallF → Prop} (hK : ∀ m, K (callSig E.S (callOf E.F (exec E m)))) (hD : DrawOk F P B K) : ∀ m, RunOk F P B E m := by
  intro m
  induction m using Nat.strongRecOn with
  | ind m ihm =>
  cases m with
  | zero => intro D n nt c R fr st Q a w ρ Q' hc hr; exact hr.elim
  | succ m =>
    have ih : RunOk F P B E m := ihm m (Nat.lt_succ_self m)
    have hcalls := callsOk_of hF hro hE ih
    intro D n nt c R fr st Q a w ρ Q' hc hr hf hS hQ
    cases c <;> simp only [compile] at hc
    all_goals first | (cases hc; done) | skip
    case skip =>
      obtain rfl := Option.some.inj hc
      exact wpIn_skip (hQ .normal fr st ρ .normal a w hr trivial hf hS (Ran.refl B ρ w st))
    case exit id =>
      obtain rfl := Option.some.inj hc
      exact wpIn_exit (hQ (.exit id) fr st ρ (.exit id) a w hr rfl hf hS (Ran.refl B ρ w st))
    case ret =>
      obtain rfl := Option.some.inj hc
      exact wpIn_ret (hQ .ret fr st ρ .ret a w hr trivial hf hS (Ran.refl B ρ w st))
    case seq c1 c2 =>
      split at hc
      · rename_i r1 r2 h1 h2
        obtain rfl := Option.some.inj hc
        refine wpIn_seq (ih n nt c1 r1 fr st _ a w ρ _ h1 hr hf hS fun ex fr' st' ρ' e a' w' hq hx hf' hS' hran => ?_)
        cases ex with
        | normal =>
          cases e <;> simp only [XRel] at hx
          exact ih n nt c2 r2 fr' st' Q a' w' ρ' Q' h2 hq hf' hS' fun ex fr2 st2 ρ2 e a2 w2 q1 q2 q3 q4 q5 => hQ ex fr2 st2 ρ2 e a2 w2 q1 q2 q3 q4 (hran.trans q5)
        | exit id => cases e <;> simp only [XRel] at hx; exact hQ (.exit id) fr' st' ρ' _ a' w' hq hx hf' hS' hran
        | ret => cases e <;> simp only [XRel] at hx; exact hQ .ret fr' st' ρ' _ a' w' hq trivial hf' hS' hran
        | pan v => cases e <;> simp only [XRel] at hx; exact hQ (.pan v) fr' st' ρ' _ a' w' hq hx hf' hS' hran
      · cases hc
    case cond cnd c1 c2 =>
      split at hc
      · rename_i r1 r2 h1 h2
        obtain rfl := Option.some.inj hc
        simp only [runP] at hr
        split at hr
        · rename_i b hb
          have hcv : a.eval cnd = .bool b := by
            cases cnd with
            | tmp t => have := hf.rel t; rw [show get fr t = .bool b from hb] at this; exact this.bool
            | const v => exact hb
            | global g => simp [ev, undef] at hb
            | func f => simp [ev] at hb
          refine wpIn_cond hcv ?_
          cases b with
          | true => exact ih n nt c1 r1 fr st Q a w ρ Q' h1 hr hf hS hQ
          | false => exact ih n nt c2 r2 fr st Q a w ρ Q' h2 hr hf hS hQ
        · exact hr.elim
      · cases hc
    case block id c1 =>
      simp only [Option.map_eq_some_iff] at hc
      obtain ⟨r1, h1, rfl⟩ := hc
      refine wpIn_block (ih n nt c1 r1 fr st _ a w ρ _ h1 hr hf hS fun ex fr' st' ρ' e a' w' hq hx hf' hS' hran => ?_)
      cases ex with
      | normal => cases e <;> simp only [XRel] at hx; exact hQ .normal fr' st' ρ' _ a' w' hq trivial hf' hS' hran
      | exit id' =>
        cases e <;> simp only [XRel] at hx
        subst hx
        simp only [Exit.inBlock]
        by_cases hid : id' = id
        · simp only [hid, if_true] at hq ⊢
          exact hQ .normal fr' st' ρ' _ a' w' hq trivial hf' hS' hran
        · simp only [hid, if_false] at hq ⊢
          exact hQ (.exit id') fr' st' ρ' _ a' w' hq rfl hf' hS' hran
      | ret => cases e <;> simp only [XRel] at hx; exact hQ .ret fr' st' ρ' _ a' w' hq trivial hf' hS' hran
      | pan v => cases e <;> simp only [XRel] at hx; exact hQ (.pan v) fr' st' ρ' _ a' w' hq hx hf' hS' hran
    case loop c1 =>
      simp only [Option.map_eq_some_iff] at hc
      obtain ⟨r1, h1, rfl⟩ := hc
      exact wpIn_loop_rounds (m + 1) (loop_rounds (m + 1) ihm n nt c1 r1 fr st Q a w ρ Q' h1 hr hf hS hQ)
    case region id ops draw =>
      simp only [Option.map_eq_some_iff] at hc
      obtain ⟨l, hl, rfl⟩ := hc
      cases draw with
      | false =>
        refine wpIn_region ?_
        unfold cops at hl
        simp [bind, Option.bind_eq_some_iff, guardB] at hl
        exact runL_sound hF hcalls (List.range ops.size) l fr st Q a w ρ Q' hl hr hf hS hQ
      | true =>
        simp only [runP] at hr
        split at hr
        · rename_i e fr' st' hx
          have he := runOpsD_normal _ _ _ _ _ _ _ _ hx
          subst he
          exact hD _ (callsOkD_of hcalls) (hK m) n nt id ops l fr st .normal fr' st' a w ρ Q' hl hx hf hS fun ρ' a' w' q1 q2 q3 => hQ .normal fr' st' ρ' .normal a' w' hr trivial q1 q2 q3
        · exact hr.elim

end Go.Ai
