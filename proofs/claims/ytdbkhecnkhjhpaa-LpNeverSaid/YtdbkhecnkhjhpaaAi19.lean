/- Regions in order, and the control. -/
import Derived.Test.YtdbkhecnkhjhpaaAi18
namespace Go.Ai
open Go.RowKit
set_option linter.unusedSimpArgs false
set_option linter.unusedVariables false
variable {P : Program} {ρ ρ' : RM} {w w' : World} {D : List Deferred}

def Callable (P : Program) (f : FuncId) : Prop := ∃ fn, P.funcs[f]? = some fn ∧ fn.name ≠ "runtime.NumGoroutine" ∧ fn.body ≠ none

theorem run_callFunc {f : FuncId} {args : Array Value} (h : Callable P f) : (callFunc f args).run P w = .ok (.enter f args) w := by
  obtain ⟨fn, h1, h2, h3⟩ := h
  simp [callFunc, Sem.run_bind, h1, h2, h3]

theorem run_callOp {o : Oper} {e e' : Operand → Value} {f : Operand} {args : List Operand} {g : FuncId} {vs : List Value} (hc : cop P o = some (.call f args)) (hg : Given ρ o.op e e') (ht : target (e f) (args.map e) = some (g, vs)) (hcb : Callable P g) :
    ∃ vs', LRel ρ vs vs' ∧ (execOp e' o).run P w = .ok (.enter g vs'.toArray) w := by
  have hop : ∃ c : Call, o.op = .call c ∧ c.callee = .value f ∧ c.args.toList = args := by
    unfold cop at hc
    split at hc
    · cases hc
    cases hop : o.op <;> simp only [hop] at hc
    case call c =>
      obtain ⟨callee, args', argTypes⟩ := c
      cases callee <;> (try simp only at hc)
      case value f' =>
        simp only [Option.some.injEq, ROp.call.injEq] at hc
        obtain ⟨rfl, rfl⟩ := hc
        exact ⟨_, rfl, rfl, rfl⟩
      case builtin b => cases b <;> (try simp only at hc) <;> (repeat' split at hc) <;> simp at hc
      all_goals (try simp at hc)
    case makeFunc fn a b => cases fn <;> (try simp only at hc) <;> (repeat' split at hc) <;> simp at hc
    case makeMap t r => cases r <;> simp at hc
    case next it b => cases b <;> simp at hc
    case typeAssert a b c d => cases d <;> (try simp only at hc) <;> (repeat' split at hc) <;> simp at hc
    case build => unfold cbuild at hc; (repeat' split at hc) <;> simp at hc
    case binOp => unfold cbin at hc; (repeat' split at hc) <;> simp at hc
    all_goals ((repeat' split at hc) <;> simp at hc)
  obtain ⟨⟨callee, cargs, argTypes⟩, hop, hcal, hargs⟩ := hop
  simp only at hcal hargs
  subst hcal hargs
  rw [hop] at hg
  unfold target at ht
  split at ht
  · rename_i g' first cap hf
    simp only [Option.some.injEq, Prod.mk.injEq] at ht
    obtain ⟨rfl, rfl⟩ := ht
    have hfv := hg.rel f (by simp [Op.operands, Call.operands])
    rw [hf] at hfv
    obtain ⟨rfl, cap', hf', hcap⟩ := hfv.inv_func
    have hal : LRel ρ (cargs.toList.map e) (cargs.toList.map e') := LRel.map cargs.toList fun x hx => hg.rel x (by simp [Op.operands, Call.operands]; exact .inr (by simpa using hx))
    refine ⟨cargs.toList.map e' ++ cap'.toList, by simpa using hal.append hcap, ?_⟩
    have harr : (cargs.toList.map e' ++ cap'.toList).toArray = cargs.map e' ++ cap' := by apply Array.ext'; simp
    rw [harr]
    simp [execOp, hop, resolve, hf', Deferred.ofValue, invoke, run_callFunc hcb]
  · cases ht

theorem cop_next {o : Oper} {it : Operand} (hc : cop P o = some (.next it)) : o.op = .next it false := by
  unfold cop at hc
  split at hc
  · cases hc
  cases hop : o.op <;> simp only [hop] at hc
  case next it' iss =>
    cases iss <;> simp at hc
    rw [hc]
  case call c =>
    obtain ⟨callee, args', argTypes⟩ := c
    cases callee <;> (try simp only at hc)
    case builtin b => cases b <;> (try simp only at hc) <;> (repeat' split at hc) <;> simp at hc
    all_goals (try simp at hc)
  case makeFunc fn a b => cases fn <;> (try simp only at hc) <;> (repeat' split at hc) <;> simp at hc
  case makeMap t r => cases r <;> simp at hc
  case typeAssert a b c d => cases d <;> (try simp only at hc) <;> (repeat' split at hc) <;> simp at hc
  case build => unfold cbuild at hc; (repeat' split at hc) <;> simp at hc
  case binOp => unfold cbin at hc; (repeat' split at hc) <;> simp at hc
  all_goals ((repeat' split at hc) <;> simp at hc)

theorem coper_spec {nt : Nat} {ops : Array Oper} {b : Array Nat} {draw : Bool} {i : Nat} {r : ROper} (h : coper P nt ops b draw i = some r) :
    ∃ o, ops[i]? = some o ∧ cop P o = some r.op ∧ r.dst = o.dst ∧ (∀ x, o.dst = some x → x < nt) ∧
      (r.guard = none ∧ o.guard = none ∨ ∃ j d w, o.guard = some (j, w) ∧ (ops[j]?).bind (·.dst) = some d ∧ j < i ∧ r.guard = some (d, w)) ∧ r.anc = (if draw then b.getD i 0 else 0) := by
  unfold coper at h
  simp only [bind, pure, Option.bind_eq_some_iff] at h
  obtain ⟨o, ho, rr, hr, h⟩ := h
  have hlt : guardB (o.dst.toList.all fun x => decide (x < nt)) = some () → ∀ x, o.dst = some x → x < nt := fun hgb x hx => by
    unfold guardB at hgb
    split at hgb
    · rename_i hall
      rw [hx] at hall
      simpa using hall
    · cases hgb
  cases hog : o.guard with
  | none =>
    simp only [hog, Option.bind_some, Option.bind_eq_some_iff, Option.some.injEq] at h
    obtain ⟨_, hgb, rfl⟩ := h
    exact ⟨o, ho, hr, rfl, hlt hgb, .inl ⟨rfl, hog⟩, rfl⟩
  | some p =>
    obtain ⟨j, wt⟩ := p
    simp only [hog] at h
    split at h
    · rename_i d hd
      split at h
      · rename_i hji
        simp only [Option.bind_some, Option.bind_eq_some_iff, Option.some.injEq] at h
        obtain ⟨_, hgb, rfl⟩ := h
        exact ⟨o, ho, hr, rfl, hlt hgb, .inr ⟨j, d, wt, hog, hd, hji, rfl⟩, rfl⟩
      · simp at h
    · simp at h

theorem wanted_rel {nt : Nat} {ops : Array Oper} {b : Array Nat} {draw : Bool} {i : Nat} {r : ROper} {o : Oper} {fr : Fr} {a : Act} (h : coper P nt ops b draw i = some r) (ho : ops[i]? = some o)
    (hv : ∀ d w, r.guard = some (d, w) → VRel ρ (get fr d) (a.tmps.getD d undef)) : Region.wanted o (yielded ops a.tmps) = wanted fr r.guard := by
  obtain ⟨o', ho', _, _, _, hg, _⟩ := coper_spec h
  obtain rfl : o = o' := Option.some.inj (ho.symm.trans ho')
  rcases hg with ⟨h1, h2⟩ | ⟨j, d, wt, h1, h2, _, h4⟩
  · rw [h1]; simp [Region.wanted, h2, wanted]
  · have hvd := hv d wt h4
    rw [h4]
    simp only [Region.wanted, h1, yielded, h2, Option.bind_some, wanted]
    have hx : a.tmps.getD d undef = (a.tmps[d]?).getD undef := by simp
    cases hq : a.tmps[d]? with
    | none =>
      rw [hx, hq] at hvd
      simp only [Option.getD_none] at hvd
      cases hgd : get fr d with
      | bool x => rw [hgd] at hvd; have := hvd.bool; simp [undef] at this
      | _ => rfl
    | some v =>
      rw [hx, hq] at hvd
      simp only [Option.getD_some] at hvd
      cases hgd : get fr d with
      | bool x => rw [hgd] at hvd; obtain rfl := hvd.bool; cases x <;> cases wt <;> rfl
      | _ =>
        rw [hgd] at hvd
        cases v with
        | bool y => cases hvd
        | _ => rfl

/-- Calls do what the abstract calls do. -/
def CallsOk (F : Fence) (P : Program) (B : Nat) (cp : CallP) : Prop :=
  ∀ f args st Q, cp f args st Q → Callable P f ∧ (st.fl = st.h.length → ∀ n ρ w args', LRel ρ args args' → SRel B ρ w st → CallsIn F n P f args'.toArray w (CPost B ρ w st Q))

theorem SRel.fl {B : Nat} {st : St} (h : SRel B ρ w st) (n : Nat) : SRel B ρ w { st with fl := n } := ⟨h.mem, h.full⟩

theorem sees_of {B nt : Nat} {st : St} {fr : Fr} {a : Act} {o : Oper} {r : ROp} (hc : cop P o = some r) (hf : FRel D ρ nt fr a) (hS : SRel B ρ w st) :
    Sees ρ w st.h ((fpOf r (ev fr) st).r ++ (fpOf r (ev fr) st).w) :=
  hp_sees (fp_known (e' := a.eval) (fun x hx => ev_rel hf (cop_okO hc x (cop_fpOps hc x hx))) fun b _ L hL => hS.mem.rel b L hL) fun b _ L hL => hS.mem.rel b L hL

theorem runL_sound {F : Fence} (hF : Open F) {B : Nat} {cp : CallP} (hcp : CallsOk F P B cp) {nt n : Nat} {ops : Array Oper} {b : Array Nat} {draw : Bool} : ∀ (is : List Nat) (l : List ROper) (fr : Fr) (st : St) (Q : Ex → Fr → St → Prop) (a : Act) (w : World) (ρ : RM) (Q' : Exit → Act → World → Prop),
    is.mapM (coper P nt ops b draw) = some l → runL cp l fr st Q → FRel D ρ nt fr a → SRel B ρ w st →
    (∀ ex fr' st' ρ' e a' w', Q ex fr' st' → XRel ρ' ex e → FRel D ρ' nt fr' a' → SRel B ρ' w' st' → Ran B ρ ρ' w w' st st' → Q' e a' w') → wpOpsIn F n P ops Q' is a w := by
  intro is
  induction is with
  | nil =>
    intro l fr st Q a w ρ Q' hl hr hf hS hQ
    simp at hl
    subst hl
    exact hQ .normal fr st ρ .normal a w hr trivial hf hS (Ran.refl B ρ w st)
  | cons i is ih =>
    intro l fr st Q a w ρ Q' hl hr hf hS hQ
    simp only [List.mapM_cons, bind, Option.bind_eq_some_iff, pure, Option.some.injEq] at hl
    obtain ⟨r, hco, l', hl', rfl⟩ := hl
    obtain ⟨o, ho, hc, hdst, hdlt, hgd, _⟩ := coper_spec hco
    have hw := wanted_rel hco ho (fun d w _ => hf.rel d)
    -- what follows
    have hnext : ∀ (v v' : Value) (st1 : St) (ρ1 : RM) (w1 : World), runL cp l' (putD fr r.dst v) st1 Q → VRel ρ1 v v' → SRel B ρ1 w1 st1 → Ran B ρ ρ1 w w1 st st1 → wpOpsIn F n P ops Q' is (a.put o.dst v') w1 := by
      intro v v' st1 ρ1 w1 hr1 hv hS1 hran
      refine ih l' _ st1 Q _ w1 ρ1 Q' hl' hr1 ?_ hS1 fun ex fr' st' ρ' e a' w' h1 h2 h3 h4 h5 => hQ ex fr' st' ρ' e a' w' h1 h2 h3 h4 (hran.trans h5)
      rw [hdst]
      exact (hf.mono hran.le).putD hdlt hv
    simp only [wpOpsIn, ho]
    simp only [runL] at hr
    rw [hw]
    by_cases hwt : wanted fr r.guard = true
    · rw [if_pos hwt] at hr ⊢
      have hgiven := given_of hc hf
      have hsee := sees_of hc hf hS
      have hk : ∀ b ∈ (fpOf r.op (ev fr) st).w, ∃ L, ρ b = some L := fun b hb =>
        fp_known (e' := a.eval) (w := w) (fun x hx => ev_rel hf (cop_okO hc x (cop_fpOps hc x hx))) (fun b _ L hL => hS.mem.rel b L hL) b (List.mem_append.2 (.inr hb))
      have hplain : (∀ v st1, step r.op (ev fr) st = some (.val v, st1) → runL cp l' (putD fr r.dst v) st1 Q) → (∀ v st1, step r.op (ev fr) st = some (.pan v, st1) → Q (.pan v) fr st1) → (step r.op (ev fr) st).isSome = true → o.wpIn F n P a w (wpOpsIn F n P ops Q' is) Q' := by
        intro h1 h2 h3
        obtain ⟨⟨res, st1⟩, hs⟩ := Option.isSome_iff_exists.1 h3
        refine wpIn_of_run hF hc ?_
        cases res with
        | val v =>
          obtain ⟨ρ1, v', w1, hrun, hv, hS1, hran⟩ := hS.step (step_ok hc hgiven (fun _ => hS.full.dom) hsee hs) hk (step_ro hs)
          exact uponIn_step hrun (hnext v v' st1 ρ1 w1 (h1 v st1 hs) hv hS1 hran)
        | pan v =>
          obtain ⟨rfl, v', hrun, hv⟩ := step_pan (w := w) hc hgiven hs
          rw [hrun]
          exact hQ (.pan v) fr st1 ρ _ a w (h2 v st1 hs) ⟨v', hv, rfl⟩ hf hS (Ran.refl B ρ w st1)
      cases hop : r.op <;> simp only [hop] at hr
      case call f args =>
        rw [hop] at hc
        split at hr
        · rename_i g vs ht
          obtain ⟨hcb, hcall⟩ := hcp _ _ _ _ hr
          obtain ⟨vs', hvs, hrun⟩ := run_callOp (w := w) hc hgiven ht hcb
          refine wpIn_of_run hF hc ?_
          rw [hrun]
          refine ⟨fun h => absurd h (by rw [hF.depth]; simp), ?_⟩
          refine (hcall rfl (n - 1) ρ w vs' hvs (hS.fl _)).mono fun e w1 h => ?_
          cases e with
          | returned v' =>
            obtain ⟨v, st1, ρ1, h1, h2, h3, h4⟩ := h
            exact hnext v v' _ ρ1 w1 h1 h2 ⟨h3.mem, h3.full⟩ (h4.joined hS.full)
          | panicked chain =>
            obtain ⟨v, v', st1, ρ1, h1, h2, rfl, h3, h4⟩ := h
            have hj := h4.joined hS.full
            exact hQ (.pan v) fr _ ρ1 _ a w1 h1 ⟨v', h2, rfl⟩ (hf.mono hj.le) ⟨h3.mem, h3.full⟩ hj
          | outgrown => exact h.elim
        · exact hr.elim
      case next it =>
        rw [hop] at hc
        split at hr
        · rename_i rr bb since seen lc hn
          obtain ⟨h1, h2⟩ := hr
          have hiv : VRel ρ (ev fr it) (a.eval it) := ev_rel hf (cop_okO hc it (cop_fpOps hc it (by simp [fpOps])))
          have hse : Sees ρ w st.h (iterMap st.h (blk (ev fr it))) := fun k hk => hsee k (by rw [hop]; simp [fpOf]; exact .inl hk)
          obtain ⟨hb, hcases⟩ := next_ok (P := P) (w := w) (ty := o.type) hn hiv hse
          have hkk : ∀ b ∈ [rr], ∃ L, ρ b = some L := fun b hb' => blk_known hiv (by rw [hb]; exact hb')
          refine wpIn_of_run hF hc ?_
          have hexec : execOp a.eval o = (do pure (Next.value (← Instr.next (a.eval it) false o.type)) : Sem Next) := by
            have hoo : o.op = .next it false := cop_next hc
            simp [execOp, hoo]
          rw [hexec]
          rcases hcases with ⟨hl0, hst⟩ | ⟨en, hen, hst⟩
          · obtain ⟨ρ1, v', w1, hrun, hv, hS1, hran⟩ := hS.step hst hkk (RoKept.refl _)
            exact uponIn_step hrun (hnext nextOver v' st ρ1 w1 (h1 hl0) hv hS1 hran)
          · obtain ⟨ρ1, v', w1, hrun, hv, hS1, hran⟩ := hS.step hst hkk (RoKept.set rfl)
            exact uponIn_step hrun (hnext _ v' _ ρ1 w1 (h2 en hen) hv hS1 hran)
        · exact hr.elim
      all_goals
        (rw [hop] at hplain
         refine hplain (fun v st1 hs => ?_) (fun v st1 hs => ?_) ?_
         · rw [hs] at hr; exact hr
         · rw [hs] at hr; exact hr
         · revert hr
           cases step _ (ev fr) st with
           | none => intro hr; exact hr.elim
           | some p => intro _; rfl)
    · rw [if_neg hwt] at hr ⊢
      exact ⟨fun f _ => hF.fn f, hnext undef undef st ρ w hr (VRel.undef_ ρ) hS (Ran.refl B ρ w st)⟩

end Go.Ai
