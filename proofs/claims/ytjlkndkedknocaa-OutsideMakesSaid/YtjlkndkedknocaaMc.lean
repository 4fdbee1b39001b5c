/- Texts that were built one by one: Ai19, AiK, Ai20, Ai21, Ai22, Ai23, Ai24, Ai25, Ai26, Ai27, Ai28, AiG, Ai29, Ai30. -/
import Derived.Test.YtjlkndkedknocaaMb
import Derived.RangeFuncRecord
import Derived.LoopNIn
import Derived.RangeFuncIn
namespace Go.Ai
open Go.RowKit
set_option linter.unusedSimpArgs false
set_option linter.unusedVariables false
variable {P : Program} {ρ ρ' : RM} {w w' : World} {D : List Deferred}

def Callable (P : Program) (f : FuncId) : Prop := ∃ fn, P.funcs[f]? = some fn ∧ fn.name ≠ "runtime.NumGoroutine" ∧ fn.body ≠ none

theorem run_callFunc {f : FuncId} {args : Array Value} (h : Callable P f) : (callFunc f args).run P w = .ok (.enter f args) w := by
  obtain ⟨fn, h1, h2, h3⟩ := h
  simp [callFunc, Sem.run_bind, h1, h2, h3]

theorem cop_call {o : Oper} {f : Operand} {args : List Operand} (hc : cop P o = some (.call f args)) : ∃ c : Call, o.op = .call c ∧ c.callee = .value f ∧ c.args.toList = args := by
    unfold cop at hc
    split at hc
    · cases hc
    cases hop : o.op <;> simp only [hop] at hc
    case call c =>
      obtain ⟨callee, args', argTypes⟩ := c
      cases callee <;> (try simp only at hc)
      case value f' =>
        simp only [Option.some.injEq, ROp.call.injEq] at hc
        obtain ⟨rfl, rfl⟩ := hc
        exact ⟨_, rfl, rfl, rfl⟩
      case builtin b => cases b <;> (try simp only at hc) <;> (repeat' split at hc) <;> simp at hc
      all_goals (try simp at hc)
    case makeFunc fn a b => cases fn <;> (try simp only at hc) <;> (repeat' split at hc) <;> simp at hc
    case makeMap t r => cases r <;> simp at hc
    case next it b => cases b <;> simp at hc
    case typeAssert a b c d => cases d <;> (try simp only at hc) <;> (repeat' split at hc) <;> simp at hc
    case build => unfold cbuild at hc; (repeat' split at hc) <;> simp at hc
    case binOp => unfold cbin at hc; (repeat' split at hc) <;> simp at hc
    all_goals ((repeat' split at hc) <;> simp at hc)

theorem run_callOp {o : Oper} {e e' : Operand → Value} {f : Operand} {args : List Operand} {g : FuncId} {vs : List Value} (hc : cop P o = some (.call f args)) (hg : Given ρ o.op e e') (ht : target (e f) (args.map e) = some (g, vs)) (hlt : g < yB) (hcb : Callable P g) :
    ∃ vs', LRel ρ vs vs' ∧ (execOp e' o).run P w = .ok (.enter g vs'.toArray) w := by
  have hop := cop_call hc
  obtain ⟨⟨callee, cargs, argTypes⟩, hop, hcal, hargs⟩ := hop
  simp only at hcal hargs
  subst hcal hargs
  rw [hop] at hg
  unfold target at ht
  split at ht
  · rename_i g' first cap hf
    split at ht
    · simp only [Option.some.injEq, Prod.mk.injEq] at ht
      obtain ⟨rfl, rfl⟩ := ht
      have hfv := hg.rel f (by simp [Op.operands, Call.operands])
      rw [hf] at hfv
      obtain ⟨rfl, cap', hf', hcap⟩ := hfv.inv_func
      have hal : LRel ρ (cargs.toList.map e) (cargs.toList.map e') := LRel.map cargs.toList fun x hx => hg.rel x (by simp [Op.operands, Call.operands]; exact .inr (by simpa using hx))
      refine ⟨cargs.toList.map e' ++ cap'.toList, by simpa using hal.append hcap, ?_⟩
      have harr : (cargs.toList.map e' ++ cap'.toList).toArray = cargs.map e' ++ cap' := by apply Array.ext'; simp
      rw [harr]
      simp [execOp, hop, resolve, hf', Deferred.ofValue, invoke, run_callFunc hcb]
    · cases ht
  · simp only [Option.some.injEq, Prod.mk.injEq] at ht
    rw [← ht.1] at hlt
    exact absurd hlt (Nat.not_lt.2 (Nat.le_add_right _ _))
  · cases ht

/-- A call of a loop's yield. -/
theorem run_callY {o : Oper} {e e' : Operand → Value} {f : Operand} {args : List Operand} {g : FuncId} {vs : List Value} (hc : cop P o = some (.call f args)) (hg : Given ρ o.op e e') (ht : target (e f) (args.map e) = some (g, vs)) (hge : yB ≤ g) :
    ∃ l vs', ρ (g - yB) = some l ∧ LRel ρ vs vs' ∧ (execOp e' o).run P w = (Instr.yield l.b vs'.toArray).run P w := by
  have hop := cop_call hc
  obtain ⟨⟨callee, cargs, argTypes⟩, hop, hcal, hargs⟩ := hop
  simp only at hcal hargs
  subst hcal hargs
  rw [hop] at hg
  unfold target at ht
  split at ht
  · split at ht
    · rename_i hlt
      simp only [Option.some.injEq, Prod.mk.injEq] at ht
      rw [ht.1] at hlt
      exact absurd hlt (Nat.not_lt.2 hge)
    · cases ht
  · rename_i k first cap hf
    simp only [Option.some.injEq, Prod.mk.injEq] at ht
    obtain ⟨rfl, rfl⟩ := ht
    have hfv := hg.rel f (by simp [Op.operands, Call.operands])
    rw [hf] at hfv
    obtain ⟨_, _, l, hl, hf'⟩ := hfv.inv_yld
    have hal : LRel ρ (cargs.toList.map e) (cargs.toList.map e') := LRel.map cargs.toList fun x hx => hg.rel x (by simp [Op.operands, Call.operands]; exact .inr (by simpa using hx))
    refine ⟨l, cargs.toList.map e', by rw [Nat.add_sub_cancel_left]; exact hl, hal, ?_⟩
    have harr : (cargs.toList.map e').toArray = cargs.map e' := by apply Array.ext'; simp
    rw [harr]
    simp [execOp, hop, resolve, hf', Deferred.ofValue, invoke]
  · cases ht

theorem cop_next {o : Oper} {it : Operand} (hc : cop P o = some (.next it)) : o.op = .next it false := by
  unfold cop at hc
  split at hc
  · cases hc
  cases hop : o.op <;> simp only [hop] at hc
  case next it' iss =>
    cases iss <;> simp at hc
    rw [hc]
  case call c =>
    obtain ⟨callee, args', argTypes⟩ := c
    cases callee <;> (try simp only at hc)
    case builtin b => cases b <;> (try simp only at hc) <;> (repeat' split at hc) <;> simp at hc
    all_goals (try simp at hc)
  case makeFunc fn a b => cases fn <;> (try simp only at hc) <;> (repeat' split at hc) <;> simp at hc
  case makeMap t r => cases r <;> simp at hc
  case typeAssert a b c d => cases d <;> (try simp only at hc) <;> (repeat' split at hc) <;> simp at hc
  case build => unfold cbuild at hc; (repeat' split at hc) <;> simp at hc
  case binOp => unfold cbin at hc; (repeat' split at hc) <;> simp at hc
  all_goals ((repeat' split at hc) <;> simp at hc)

theorem coper_spec {nt : Nat} {ops : Array Oper} {b : Array Nat} {draw : Bool} {i : Nat} {r : ROper} (h : coper P nt ops b draw i = some r) :
    ∃ o, ops[i]? = some o ∧ cop P o = some r.op ∧ r.dst = o.dst ∧ (∀ x, o.dst = some x → x < nt) ∧
      (r.guard = none ∧ o.guard = none ∨ ∃ j d w, o.guard = some (j, w) ∧ (ops[j]?).bind (·.dst) = some d ∧ j < i ∧ r.guard = some (d, w)) ∧ r.anc = (if draw then b.getD i 0 else 0) := by
  unfold coper at h
  simp only [bind, pure, Option.bind_eq_some_iff] at h
  obtain ⟨o, ho, rr, hr, h⟩ := h
  have hlt : guardB (o.dst.toList.all fun x => decide (x < nt)) = some () → ∀ x, o.dst = some x → x < nt := fun hgb x hx => by
    unfold guardB at hgb
    split at hgb
    · rename_i hall
      rw [hx] at hall
      simpa using hall
    · cases hgb
  cases hog : o.guard with
  | none =>
    simp only [hog, Option.bind_some, Option.bind_eq_some_iff, Option.some.injEq] at h
    obtain ⟨_, hgb, rfl⟩ := h
    exact ⟨o, ho, hr, rfl, hlt hgb, .inl ⟨rfl, hog⟩, rfl⟩
  | some p =>
    obtain ⟨j, wt⟩ := p
    simp only [hog] at h
    split at h
    · rename_i d hd
      split at h
      · rename_i hji
        simp only [Option.bind_some, Option.bind_eq_some_iff, Option.some.injEq] at h
        obtain ⟨_, hgb, rfl⟩ := h
        exact ⟨o, ho, hr, rfl, hlt hgb, .inr ⟨j, d, wt, hog, hd, hji, rfl⟩, rfl⟩
      · simp at h
    · simp at h

theorem wanted_rel {nt : Nat} {ops : Array Oper} {b : Array Nat} {draw : Bool} {i : Nat} {r : ROper} {o : Oper} {fr : Fr} {a : Act} (h : coper P nt ops b draw i = some r) (ho : ops[i]? = some o)
    (hv : ∀ d w, r.guard = some (d, w) → VRel ρ (get fr d) (a.tmps.getD d undef)) : Region.wanted o (yielded ops a.tmps) = wanted fr r.guard := by
  obtain ⟨o', ho', _, _, _, hg, _⟩ := coper_spec h
  obtain rfl : o = o' := Option.some.inj (ho.symm.trans ho')
  rcases hg with ⟨h1, h2⟩ | ⟨j, d, wt, h1, h2, _, h4⟩
  · rw [h1]; simp [Region.wanted, h2, wanted]
  · have hvd := hv d wt h4
    rw [h4]
    simp only [Region.wanted, h1, yielded, h2, Option.bind_some, wanted]
    have hx : a.tmps.getD d undef = (a.tmps[d]?).getD undef := by simp
    cases hq : a.tmps[d]? with
    | none =>
      rw [hx, hq] at hvd
      simp only [Option.getD_none] at hvd
      cases hgd : get fr d with
      | bool x => rw [hgd] at hvd; have := hvd.bool; simp [undef] at this
      | _ => rfl
    | some v =>
      rw [hx, hq] at hvd
      simp only [Option.getD_some] at hvd
      cases hgd : get fr d with
      | bool x => rw [hgd] at hvd; obtain rfl := hvd.bool; cases x <;> cases wt <;> rfl
      | _ =>
        rw [hgd] at hvd
        cases v with
        | bool y => cases hvd
        | _ => rfl

/-- Calls do what the abstract calls do. -/
def CallsOk (F : Fence) (P : Program) (B : Nat) (cp : CallP) : Prop :=
  ∀ f args st Q, cp f args st Q → (yB ≤ f → ∀ ρ w args' l, ρ (f - yB) = some l → LRel ρ args args' → SRel B ρ w st →
      ∃ lf tmps as bd, (Instr.yield l.b args'.toArray).run P w = .ok (.round l.b lf tmps as bd) w ∧ ∀ n, RoundIn F n P l.b lf tmps as bd w (CPost B ρ w st Q)) ∧
    (f < yB → Callable P f ∧ (st.fl = st.h.length → ∀ n ρ w args', LRel ρ args args' → SRel B ρ w st → CallsIn F n P f args'.toArray w (CPost B ρ w st Q)))

theorem SRel.fl {B : Nat} {st : St} (h : SRel B ρ w st) (n : Nat) : SRel B ρ w { st with fl := n } := ⟨h.mem, h.full⟩

theorem sees_of {B nt : Nat} {st : St} {fr : Fr} {a : Act} {o : Oper} {r : ROp} (hc : cop P o = some r) (hf : FRel D ρ nt fr a) (hS : SRel B ρ w st) :
    Sees ρ w st.h ((fpOf r (ev fr) st).r ++ (fpOf r (ev fr) st).w) :=
  hp_sees (fp_known (e' := a.eval) (fun x hx => ev_rel hf (cop_okO hc x (cop_fpOps hc x hx))) fun b _ L hL => hS.mem.rel b L hL) fun b _ L hL => hS.mem.rel b L hL

theorem runL_sound {F : Fence} (hF : Open F) {B : Nat} {cp : CallP} (hcp : CallsOk F P B cp) {nt n : Nat} {ops : Array Oper} {b : Array Nat} {draw : Bool} : ∀ (is : List Nat) (l : List ROper) (fr : Fr) (st : St) (Q : Ex → Fr → St → Prop) (a : Act) (w : World) (ρ : RM) (Q' : Exit → Act → World → Prop),
    is.mapM (coper P nt ops b draw) = some l → runL cp l fr st Q → FRel D ρ nt fr a → SRel B ρ w st →
    (∀ ex fr' st' ρ' e a' w', Q ex fr' st' → XRel ρ' ex e → FRel D ρ' nt fr' a' → SRel B ρ' w' st' → Ran B ρ ρ' w w' st st' → Q' e a' w') → wpOpsIn F n P ops Q' is a w := by
  intro is
  induction is with
  | nil =>
    intro l fr st Q a w ρ Q' hl hr hf hS hQ
    simp at hl
    subst hl
    exact hQ .normal fr st ρ .normal a w hr trivial hf hS (Ran.refl B ρ w st)
  | cons i is ih =>
    intro l fr st Q a w ρ Q' hl hr hf hS hQ
    simp only [List.mapM_cons, bind, Option.bind_eq_some_iff, pure, Option.some.injEq] at hl
    obtain ⟨r, hco, l', hl', rfl⟩ := hl
    obtain ⟨o, ho, hc, hdst, hdlt, hgd, _⟩ := coper_spec hco
    have hw := wanted_rel hco ho (fun d w _ => hf.rel d)
    -- what follows
    have hnext : ∀ (v v' : Value) (st1 : St) (ρ1 : RM) (w1 : World), runL cp l' (putD fr r.dst v) st1 Q → VRel ρ1 v v' → SRel B ρ1 w1 st1 → Ran B ρ ρ1 w w1 st st1 → wpOpsIn F n P ops Q' is (a.put o.dst v') w1 := by
      intro v v' st1 ρ1 w1 hr1 hv hS1 hran
      refine ih l' _ st1 Q _ w1 ρ1 Q' hl' hr1 ?_ hS1 fun ex fr' st' ρ' e a' w' h1 h2 h3 h4 h5 => hQ ex fr' st' ρ' e a' w' h1 h2 h3 h4 (hran.trans h5)
      rw [hdst]
      exact (hf.mono hran.le).putD hdlt hv
    simp only [wpOpsIn, ho]
    simp only [runL] at hr
    rw [hw]
    by_cases hwt : wanted fr r.guard = true
    · rw [if_pos hwt] at hr ⊢
      have hgiven := given_of hc hf
      have hsee := sees_of hc hf hS
      have hk : ∀ b ∈ (fpOf r.op (ev fr) st).w, ∃ L, ρ b = some L := fun b hb =>
        fp_known (e' := a.eval) (w := w) (fun x hx => ev_rel hf (cop_okO hc x (cop_fpOps hc x hx))) (fun b _ L hL => hS.mem.rel b L hL) b (List.mem_append.2 (.inr hb))
      have hplain : (∀ v st1, step r.op (ev fr) st = some (.val v, st1) → runL cp l' (putD fr r.dst v) st1 Q) → (∀ v st1, step r.op (ev fr) st = some (.pan v, st1) → Q (.pan v) fr st1) → (step r.op (ev fr) st).isSome = true → o.wpIn F n P a w (wpOpsIn F n P ops Q' is) Q' := by
        intro h1 h2 h3
        obtain ⟨⟨res, st1⟩, hs⟩ := Option.isSome_iff_exists.1 h3
        refine wpIn_of_run hF hc ?_
        cases res with
        | val v =>
          obtain ⟨ρ1, v', w1, hrun, hv, hS1, hran⟩ := hS.step (step_ok hc hgiven (fun _ => hS.full.dom) hsee hs) hk (step_ro hs)
          exact uponIn_step hrun (hnext v v' st1 ρ1 w1 (h1 v st1 hs) hv hS1 hran)
        | pan v =>
          obtain ⟨rfl, v', hrun, hv⟩ := step_pan (w := w) hc hgiven hs
          rw [hrun]
          exact hQ (.pan v) fr st1 ρ _ a w (h2 v st1 hs) ⟨v', hv, rfl⟩ hf hS (Ran.refl B ρ w st1)
      cases hop : r.op <;> simp only [hop] at hr
      case call f args =>
        rw [hop] at hc
        split at hr
        · rename_i g vs ht
          have hend : ∀ e w1, CPost B ρ w { st with fl := st.h.length } (fun out st' => match out with
              | .ret v => runL cp l' (putD fr r.dst v) (joined st st') Q
              | .pan v => Q (.pan v) fr (joined st st')) e w1 →
              (match e with
                | .returned v => wpOpsIn F n P ops Q' is (a.put o.dst v) w1
                | .panicked chain => Q' (.panic chain) a w1
                | .outgrown => LetsOut Q') := by
            intro e w1 h
            cases e with
            | returned v' =>
              obtain ⟨v, st1, ρ1, h1, h2, h3, h4⟩ := h
              exact hnext v v' _ ρ1 w1 h1 h2 ⟨h3.mem, h3.full⟩ (h4.joined hS.full)
            | panicked chain =>
              obtain ⟨v, v', st1, ρ1, h1, h2, rfl, h3, h4⟩ := h
              have hj := h4.joined hS.full
              exact hQ (.pan v) fr _ ρ1 _ a w1 h1 ⟨v', h2, rfl⟩ (hf.mono hj.le) ⟨h3.mem, h3.full⟩ hj
            | outgrown => exact h.elim
          by_cases hy : yB ≤ g
          · obtain ⟨lc, vs', hlc, hvs, hrun⟩ := run_callY (w := w) hc hgiven ht hy
            obtain ⟨lf, tmps, as, bd, hyd, hround⟩ := (hcp _ _ _ _ hr).1 hy ρ w vs' lc hlc hvs (hS.fl _)
            refine wpIn_of_run hF hc ?_
            rw [hrun, hyd]
            refine ⟨fun h => absurd h (by rw [hF.depth]; simp), ?_⟩
            exact (hround (n - 1)).mono fun e w1 h => by have := hend e w1 h; cases e <;> exact this
          obtain ⟨hcb, hcall⟩ := (hcp _ _ _ _ hr).2 (Nat.lt_of_not_le hy)
          obtain ⟨vs', hvs, hrun⟩ := run_callOp (w := w) hc hgiven ht (Nat.lt_of_not_le hy) hcb
          refine wpIn_of_run hF hc ?_
          rw [hrun]
          refine ⟨fun h => absurd h (by rw [hF.depth]; simp), ?_⟩
          exact (hcall rfl (n - 1) ρ w vs' hvs (hS.fl _)).mono fun e w1 h => by have := hend e w1 h; cases e <;> exact this
        · exact hr.elim
      case next it =>
        rw [hop] at hc
        split at hr
        · rename_i rr bb since seen lc hn
          obtain ⟨h1, h2⟩ := hr
          have hiv : VRel ρ (ev fr it) (a.eval it) := ev_rel hf (cop_okO hc it (cop_fpOps hc it (by simp [fpOps])))
          have hse : Sees ρ w st.h (iterMap st.h (blk (ev fr it))) := fun k hk => hsee k (by rw [hop]; simp [fpOf]; exact .inl hk)
          obtain ⟨hb, hcases⟩ := next_ok (P := P) (w := w) (ty := o.type) hn hiv hse
          have hkk : ∀ b ∈ [rr], ∃ L, ρ b = some L := fun b hb' => blk_known hiv (by rw [hb]; exact hb')
          refine wpIn_of_run hF hc ?_
          have hexec : execOp a.eval o = (do pure (Next.value (← Instr.next (a.eval it) false o.type)) : Sem Next) := by
            have hoo : o.op = .next it false := cop_next hc
            simp [execOp, hoo]
          rw [hexec]
          rcases hcases with ⟨hl0, hst⟩ | ⟨en, hen, hst⟩
          · obtain ⟨ρ1, v', w1, hrun, hv, hS1, hran⟩ := hS.step hst hkk (RoKept.set rfl)
            exact uponIn_step hrun (hnext nextOver v' _ ρ1 w1 (h1 hl0) hv hS1 hran)
          · obtain ⟨ρ1, v', w1, hrun, hv, hS1, hran⟩ := hS.step hst hkk (RoKept.set rfl)
            exact uponIn_step hrun (hnext _ v' _ ρ1 w1 (h2 en hen) hv hS1 hran)
        · exact hr.elim
      all_goals
        (rw [hop] at hplain
         refine hplain (fun v st1 hs => ?_) (fun v st1 hs => ?_) ?_
         · rw [hs] at hr; exact hr
         · rw [hs] at hr; exact hr
         · revert hr
           cases step _ (ev fr) st with
           | none => intro hr; exact hr.elim
           | some p => intro _; rfl)
    · rw [if_neg hwt] at hr ⊢
      exact ⟨fun f _ => hF.fn f, hnext undef undef st ρ w hr (VRel.undef_ ρ) hS (Ran.refl B ρ w st)⟩

end Go.Ai
namespace Go.Ai
open Go.RowKit
set_option linter.unusedSimpArgs false
set_option linter.unusedVariables false
variable {P : Program} {ρ ρ' : RM} {w w' : World} {D : List Deferred}

def mark (r : Nat) : Deferred := { target := .collected r, args := #[] }

/-- What a block that is not known keeps. -/
theorem Ran.off {B : Nat} {st st' : St} (h : Ran B ρ ρ' w w' st st') {r : Nat} (hr : r < w.heap.size) (hu : ∀ id l, ρ id = some l → l.b ≠ r) : w'.heap[r]? = w.heap[r]? ∧ ∀ id l, ρ' id = some l → l.b ≠ r := by
  refine ⟨h.keep r hr fun id l a b => absurd b (hu id l a), fun id l a e => ?_⟩
  cases h0 : ρ id with
  | some l0 =>
    obtain rfl : l = l0 := Option.some.inj (a.symm.trans (h.le id l0 h0))
    exact hu id l h0 e
  | none =>
    obtain ⟨_, h1 | ⟨k, lk, q1, q2, _⟩⟩ := h.place id l a h0
    · omega
    · exact hu k lk q1 (q2.trans e)

/-- The marks that a run has left among the deferred calls. -/
def Marks (lo : Nat) (ρ : RM) (w : World) (D D' : List Deferred) : Prop :=
  ∃ rs : List Nat, D' = rs.map mark ++ D ∧ rs.Nodup ∧ ∀ r ∈ rs, lo ≤ r ∧ w.heap[r]? = some (.deferred (some [])) ∧ ∀ id l, ρ id = some l → l.b ≠ r

theorem Marks.refl (lo : Nat) (ρ : RM) (w : World) (D : List Deferred) : Marks lo ρ w D D := ⟨[], rfl, List.nodup_nil, fun r h => by simp at h⟩
theorem lt_of_some {r : Nat} {o : Obj} (h : w.heap[r]? = some o) : r < w.heap.size := (Array.getElem?_eq_some_iff.1 h).1
theorem Marks.ran {B lo : Nat} {D' : List Deferred} {st st' : St} (h : Marks lo ρ w D D') (hr : Ran B ρ ρ' w w' st st') : Marks lo ρ' w' D D' := by
  obtain ⟨rs, h1, h2, h3⟩ := h
  refine ⟨rs, h1, h2, fun r hm => ?_⟩
  obtain ⟨a, b, c⟩ := h3 r hm
  obtain ⟨d, e⟩ := hr.off (lt_of_some b) c
  exact ⟨a, d.trans b, e⟩
theorem Marks.trans {B lo : Nat} {D₁ D₂ : List Deferred} {st st' : St} (h : Marks lo ρ w D D₁) (hr : Ran B ρ ρ' w w' st st') (k : Marks w.heap.size ρ' w' D₁ D₂) (hlo : lo ≤ w.heap.size) : Marks lo ρ' w' D D₂ := by
  have h' := h.ran hr
  obtain ⟨rs, h1, h2, h3⟩ := h'
  obtain ⟨rt, k1, k2, k3⟩ := k
  obtain ⟨rs0, g1, g2, g3⟩ := h
  have hrs : rs0 = rs := by
    have := List.append_cancel_right (g1.symm.trans h1)
    have hinj : ∀ a b, mark a = mark b → a = b := fun a b e => by simp [mark] at e; exact e
    exact (List.map_inj_right hinj).1 this
  subst hrs
  refine ⟨rt ++ rs0, by rw [k1, h1]; simp, List.nodup_append.2 ⟨k2, h2, fun a ha b hb e => ?_⟩, fun r hm => ?_⟩
  · subst e
    have := (k3 a ha).1
    have := lt_of_some (g3 a hb).2.1
    omega
  · rcases List.mem_append.1 hm with hm | hm
    · obtain ⟨a, b, c⟩ := k3 r hm; exact ⟨Nat.le_trans hlo a, b, c⟩
    · exact h3 r hm

/-- Worlds that differ in some blocks alone. -/
structure Off (rs : List Nat) (w w' : World) : Prop where
  size : w'.heap.size = w.heap.size
  os : w'.os = w.os
  tape : w'.tape = w.tape
  output : w'.output = w.output
  same : ∀ k, k ∉ rs → w'.heap[k]? = w.heap[k]?

theorem SRel.offside {B : Nat} {st : St} {rs : List Nat} (h : SRel B ρ w st) (ho : Off rs w w') (hu : ∀ r ∈ rs, ∀ id l, ρ id = some l → l.b ≠ r) : SRel B ρ w' st := by
  have hn : ∀ id l, ρ id = some l → l.b ∉ rs := fun id l hl hm => hu _ hm id l hl rfl
  refine ⟨⟨by rw [ho.size]; exact h.mem.base, fun id l hl => (h.mem.rel id l hl).same (ho.same _ (hn id l hl)), h.mem.ro, fun id l hl hr => ?_, h.mem.sep⟩, h.full⟩
  rw [ho.size]; exact h.mem.own id l hl hr
theorem Ran.offside {B : Nat} {st st' : St} {rs : List Nat} {w₂ : World} (h : Ran B ρ ρ' w w' st st') (ho : Off rs w' w₂) (hr : ∀ r ∈ rs, w.heap.size ≤ r) (hB : B ≤ w.heap.size) : Ran B ρ ρ' w w₂ st st' :=
  ⟨⟨h.le, ho.os.trans h.os, ho.tape.trans h.tape, ho.output.trans h.output, by rw [ho.size]; exact h.size,
    fun k hk => (ho.same k fun hm => by have := hr k hm; omega).trans (h.below k hk),
    fun k hk hid => (ho.same k fun hm => by have := hr k hm; omega).trans (h.keep k hk hid), h.fl, h.len, h.place⟩, h.fresh⟩

/-- A function's way out past its marks. -/
theorem marks_leave {F : Fence} {n : Nat} {fn : Func} {tmps : Array Value} {R : Ending → World → Prop} {u : FrameMode} (hu : u ≠ .run) : ∀ (rs : List Nat) (w : World), rs.Nodup → (∀ r ∈ rs, w.heap[r]? = some (.deferred (some []))) →
    (∀ w', Off rs w w' → LeavesIn F n P fn tmps R [] u w') → LeavesInM F n P fn tmps R (rs.map mark) u w := by
  intro rs
  induction rs with
  | nil => intro w _ _ h; exact h w ⟨rfl, rfl, rfl, rfl, fun _ _ => rfl⟩
  | cons r rs ih =>
    intro w hn hr h
    obtain ⟨hn1, hn2⟩ := List.nodup_cons.1 hn
    have hr0 := hr r (by simp)
    refine ⟨hu, .inl ⟨r, w.putObj r (.deferred none), rfl, run_takeDeferred hr0, ?_⟩⟩
    refine ih _ hn2 (fun s hs => ?_) fun w' ho => h w' ⟨?_, ho.os, ho.tape, ho.output, fun k hk => ?_⟩
    · rw [World.putObj_heap_other (fun e => hn1 (by subst e; exact hs))]
      exact hr s (by simp [hs])
    · rw [ho.size, World.putObj_size]
    · simp only [List.mem_cons, not_or] at hk
      rw [ho.same k hk.2, World.putObj_heap_other hk.1]

/-! ### The loop's block -/
theorem SRel.eff {B : Nat} {st st' : St} {ws : List Nat} (hS : SRel B ρ w st) (he : Eff ρ ρ' w w' st.h st'.h ws) (hws : ∀ k ∈ ws, (∃ o, st.h[k]? = some o ∧ o.own = true) ∧ st'.fl ≤ k ∧ ∃ L, ρ k = some L) (hfl : st'.fl ≤ st.fl) (hlen : st'.h.length ≤ st.h.length + 1)
    (hown : ∀ id, st.h.length ≤ id → ∀ o, st'.h[id]? = some o → o.own = true) (hro : RoKept st.h st'.h) : SRel B ρ' w' st' ∧ Ran B ρ ρ' w w' st st' := by
  have hws' : ∀ k ∈ ws, ∃ o, st.h[k]? = some o ∧ o.own = true := fun k hk => (hws k hk).1
  have hmem := hS.mem.step he hws' (fun _ _ => rfl) (fun k hk' => (hws k hk').2.2) hlen hown hro
  rw [touched_hp he hws'] at hmem
  have hran := Ran.of_step hS.mem he (fun k hk => by
    obtain ⟨o, ho, hoo⟩ := hws' k hk
    rw [hp_some ho]; exact hoo) (fun k hk => (hws k hk).2.1) hfl
  exact ⟨⟨hmem, hS.full.ran hran⟩, hran⟩

theorem wrote_put {r : Nat} {o x : Obj} (h : w.heap[r]? = some x) : Wrote w (w.putObj r o) r o :=
  ⟨rfl, rfl, rfl, World.putObj_size, World.putObj_heap_same (lt_of_some h), fun k hk => World.putObj_heap_other hk⟩

/-- A loop's block as it stands. -/
theorem loop_at {B : Nat} {st : St} {k : Nat} {l : Loc} {b : Bool} {nt : Nat} {fr : List Value} {ps : List Nat} {as bd : Code} (hS : SRel B ρ w st) (hl : ρ k = some l) (hk : st.h[k]? = some (.loop b nt fr ps as bd)) :
    CRel ρ w l (.loop b nt fr ps as bd) := by
  have := hS.mem.rel k l hl
  rw [hp_some hk] at this
  exact this

theorem loop_set {B : Nat} {st : St} {k : Nat} {l : Loc} {b : Bool} {nt : Nat} {fr : List Value} {ps : List Nat} {as bd : Code} {o : O} {ob x : Obj} (hS : SRel B ρ w st) (hl : ρ k = some l) (hk : st.h[k]? = some (.loop b nt fr ps as bd)) (hx : w.heap[l.b]? = some x)
    (hro : o.ro = false) (ho : CRel ρ (w.putObj l.b ob) l o) : SRel B ρ (w.putObj l.b ob) { st with h := st.h.set k o, fl := min st.fl k } ∧ Ran B ρ ρ w (w.putObj l.b ob) st { st with h := st.h.set k o, fl := min st.fl k } := by
  have hlt : k < st.h.length := (List.getElem?_eq_some_iff.1 hk).1
  refine hS.eff (st' := { st with h := st.h.set k o, fl := min st.fl k }) (Eff.wrote hl hlt (wrote_put hx) ho) (fun j hj => ?_) (Nat.min_le_left _ _) (by simp) (fun id h1 o2 h2 => ?_) (RoKept.set hro)
  · simp at hj; subst hj
    exact ⟨⟨_, hk, rfl⟩, Nat.min_le_right _ _, l, hl⟩
  · simp only at h2
    rw [List.getElem?_eq_none (by simp; exact h1)] at h2
    cases h2

theorem turn_ok {B : Nat} {st st2 : St} {k : Nat} {l : Loc} {b : Bool} (hS : SRel B ρ w st) (hl : ρ k = some l) (ht : turn b k st = some st2) :
    ∃ r : Loop, w.heap[l.b]? = some (.loop r) ∧ r.state = (if b then .busy else .ready) ∧
      ∀ w2, w2 = w.putObj l.b (.loop { r with state := if b then .ready else .busy, pending := none }) ∨ (w2 = w.putObj l.b (.loop { r with state := if b then .ready else .busy })) → SRel B ρ w2 st2 ∧ Ran B ρ ρ w w2 st st2 := by
  unfold turn at ht
  split at ht
  · rename_i b' nt fr ps as bd hk
    split at ht
    · rename_i hb
      subst hb
      obtain rfl := Option.some.inj ht
      obtain ⟨r, h1, h2, h3, h4, h5, h6, h7, h8, h9⟩ := loop_at hS hl hk
      refine ⟨r, h1, h2, fun w2 hw => ?_⟩
      have hw' : w2 = w.putObj l.b (.loop { r with state := if b' then .ready else .busy, pending := none }) := by
        rcases hw with rfl | rfl
        · rfl
        · congr 2
          cases r; simp only at h3; subst h3; rfl
      subst hw'
      refine loop_set hS hl hk h1 rfl ⟨_, World.putObj_heap_same (lt_of_some h1), ?_, rfl, h4, h5, h6, h7, h8, h9⟩
      cases b' <;> rfl
    · cases ht
  · cases ht

theorem over_ok {B : Nat} {st st2 : St} {k : Nat} {l : Loc} (hS : SRel B ρ w st) (hl : ρ k = some l) (ht : over k st = some st2) :
    ∃ r : Loop, w.heap[l.b]? = some (.loop r) ∧ r.state = .ready ∧ r.pending = none ∧ ∀ o, SRel B ρ (w.putObj l.b o) st2 ∧ Ran B ρ ρ w (w.putObj l.b o) st st2 := by
  unfold over at ht
  split at ht
  · rename_i nt fr ps as bd hk
    obtain rfl := Option.some.inj ht
    obtain ⟨r, h1, h2, h3, _⟩ := loop_at hS hl hk
    exact ⟨r, h1, h2, h3, fun o => loop_set hS hl hk h1 rfl trivial⟩
  · cases ht

/-- The loop's block is laid. -/
theorem looped_ok {B nt : Nat} {st : St} {fr : Fr} {a : Act} {ps : Array Tmp} {as bd : Code} {fn : FuncId} (hS : SRel B ρ w st) (hf : FRel D ρ nt fr a) (hps : ∀ p ∈ ps.toList, p < nt) :
    let w2 := (w.alloc (.deferred (some []))).alloc (.loop { state := .ready, pending := none, fn, tmps := a.tmps, params := ps, assign := as, body := bd, defers := w.heap.size })
    let ρ2 := upd ρ st.h.length ⟨w.heap.size + 1, 0, 0, 0⟩
    SRel B ρ2 w2 (looped nt fr ps.toList as bd st) ∧ Ran B ρ ρ2 w w2 st (looped nt fr ps.toList as bd st) ∧ w2.heap[w.heap.size]? = some (.deferred (some [])) ∧ (∀ id l, ρ2 id = some l → l.b ≠ w.heap.size) := by
  intro w2 ρ2
  have hd : Dom ρ st.h := hS.full.dom
  have hle := upd_le ⟨w.heap.size + 1, 0, 0, 0⟩ hd.fresh
  have hheap : w2.heap = (w.heap.push (.deferred (some []))).push (.loop { state := .ready, pending := none, fn, tmps := a.tmps, params := ps, assign := as, body := bd, defers := w.heap.size }) := rfl
  have hlow : ∀ k, k < w.heap.size → w2.heap[k]? = w.heap[k]? := fun k hk => by
    rw [hheap, Array.getElem?_push_lt (by simp; omega)]
    simp [Array.getElem_push, hk]
  have hat : w2.heap[w.heap.size + 1]? = some (.loop { state := .ready, pending := none, fn, tmps := a.tmps, params := ps, assign := as, body := bd, defers := w.heap.size }) := by
    rw [hheap]
    have : w.heap.size + 1 = (w.heap.push (Obj.deferred (some []))).size := by simp
    rw [this, Array.getElem?_push_size]
  have heff : Eff ρ ρ2 w w2 st.h (looped nt fr ps.toList as bd st).h [] := by
    refine ⟨hle, ?_, rfl, rfl, rfl, by rw [hheap]; simp; omega, fun k hk _ => hlow k hk, by simp [looped], fun id hid _ => by simp only [looped]; rw [List.getElem?_append_left hid], fun _ h => by simp at h, ?_⟩
    · intro id l hl
      simp only [ρ2, upd] at hl
      split at hl
      · rename_i e; exact .inr (by simp [looped]; omega)
      · exact .inl hl
    · intro id h1 h2
      simp [looped] at h2
      obtain rfl : id = st.h.length := by omega
      refine ⟨_, .loop false nt fr ps.toList as bd, upd_at _ _ _, by simp [looped], ⟨_, hat, rfl, rfl, rfl, rfl, rfl, hf.size, hps, fun i => (hf.rel i).mono hle⟩, .inl (by simp)⟩
  obtain ⟨q1, q2⟩ := hS.eff (st' := looped nt fr ps.toList as bd st) heff (fun k hk => by simp at hk) (Nat.le_refl _) (by simp [looped]) (fun id h1 o ho => by
    have : id = st.h.length := by
      have := (List.getElem?_eq_some_iff.1 ho).1
      simp [looped] at this
      omega
    subst this
    simp [looped] at ho
    subst ho
    rfl) (RoKept.snoc rfl)
  · refine ⟨q1, q2, ?_, fun id l hl e => ?_⟩
    · rw [hheap, Array.getElem?_push_lt (by simp)]
      simp
    · simp only [ρ2, upd] at hl
      split at hl
      · obtain rfl := Option.some.inj hl
        simp at e
      · have h1 : l.b < w.heap.size ∨ hp st.h id = .dead := by
          by_cases hr : (hp st.h id).ro = true
          · exact .inl (Nat.lt_of_lt_of_le (hS.mem.ro id l hl hr) hS.mem.base)
          · exact .inl (hS.mem.own id l hl (by simpa using hr)).2
        rcases h1 with h1 | h1
        · omega
        · have := (hS.mem.own id l hl (by rw [h1]; rfl)).2; omega

/-- A round's frame. -/
theorem putAll_rel {nt : Nat} : ∀ (ps : List Nat) (args args' : List Value) (fr : Fr) (tmps : Array Value), nt ≤ tmps.size → (∀ i, VRel ρ (get fr i) (tmps.getD i undef)) → (∀ p ∈ ps, p < nt) → LRel ρ args args' →
    FRel [] ρ nt (putAll fr ps args) { tmps := (ps.zip args').foldl (fun tmps (x : Tmp × Value) => tmps.setIfInBounds x.1 x.2) tmps, defers := [] } := by
  intro ps
  induction ps with
  | nil => intro args args' fr tmps h1 h2 _ _; cases args <;> exact ⟨h1, h2, rfl⟩
  | cons p ps ih =>
    intro args args' fr tmps h1 h2 h3 h4
    cases args with
    | nil =>
      have : args' = [] := by have := h4.1; simpa using this.symm
      subst this
      exact ⟨h1, h2, rfl⟩
    | cons x args =>
      obtain ⟨y, ys, rfl, hv, ht⟩ := h4.uncons
      have hf : FRel [] ρ nt fr { tmps := tmps, defers := [] } := ⟨h1, h2, rfl⟩
      have hp := hf.putD (d := some p) (fun x e => by obtain rfl := Option.some.inj e; exact h3 p (by simp)) hv
      exact ih args ys _ _ hp.size hp.rel (fun q hq => h3 q (by simp [hq])) ht

end Go.Ai
namespace Go.Ai
open Go.RowKit
set_option linter.unusedSimpArgs false
set_option linter.unusedVariables false
variable {P : Program} {ρ ρ' : RM} {w w' : World} {D : List Deferred}

theorem resOne_ok {B nt : Nat} {st : St} {fr : Fr} {a : Act} {rv : ResultVar} {r : RRes} {v : Value} (hc : cres P rv = some r) (hf : FRel D ρ nt fr a) (hS : SRel B ρ w st) (h : resOne fr st.h r = some v) :
    ∃ v', ((match rv with | .tmp t => pure (a.tmps.getD t undef) | .cell c t => do loadVar t (← asAddr (a.tmps.getD c undef)) : Sem Value)).run P w = .ok v' w ∧ VRel ρ v v' := by
  cases rv with
  | tmp t =>
    simp only [cres, Option.some.injEq] at hc
    subst hc
    simp only [resOne, Option.some.injEq] at h
    subst h
    exact ⟨_, rfl, hf.rel t⟩
  | cell c t =>
    simp only [cres, Option.map_eq_some_iff] at hc
    obtain ⟨n, hn, rfl⟩ := hc
    simp only [resOne] at h
    split at h
    · rename_i b i hg
      have hv := hf.rel c
      rw [hg] at hv
      obtain ⟨L, hL, hreal⟩ := hv.inv_ptr
      have hm : ∀ o, st.h[b]? = some o → CRel ρ w L o := fun o ho => by
        have := hS.mem.rel b L hL
        rw [hp_some ho] at this
        exact this
      obtain ⟨v', h1, h2⟩ := load_ok (P := P) (w := w) (v := v) hn hL hm hv (by cases n <;> exact h)
      refine ⟨v', ?_, h2⟩
      simp only [hreal] at h1 ⊢
      simpa [Instr.loadAt, Sem.run_bind, asAddr, Instr.sureAddr] using h1
    · cases h

def retV : List Value → Value
  | [v] => v
  | vs => .tuple vs.toArray

theorem results_ok {B nt : Nat} {st : St} {fr : Fr} {a : Act} {fn : Func} {rs : List RRes} {v : Value} (hc : fn.results.toList.mapM (cres P) = some rs) (hf : FRel D ρ nt fr a) (hS : SRel B ρ w st) (h : resV fr st.h rs = some v) :
    ∃ v', (results fn a.tmps).run P w = .ok v' w ∧ VRel ρ v v' := by
  have key : ∀ (l : List ResultVar) (rs : List RRes) (vs : List Value), l.mapM (cres P) = some rs → resAll fr st.h rs = some vs →
      ∃ vs', (l.mapM (fun rv => (match rv with | .tmp t => pure (a.tmps.getD t undef) | .cell c t => do loadVar t (← asAddr (a.tmps.getD c undef)) : Sem Value)) : Sem (List Value)).run P w = .ok vs' w ∧ LRel ρ vs vs' := by
    intro l
    induction l with
    | nil =>
      intro rs vs h1 h2
      simp at h1
      subst h1
      simp only [resAll, Option.some.injEq] at h2
      subst h2
      exact ⟨[], rfl, LRel.nil ρ⟩
    | cons rv l ih =>
      intro rs vs h1 h2
      simp only [List.mapM_cons, bind, Option.bind_eq_some_iff, pure, Option.some.injEq] at h1
      obtain ⟨r, hr, rs', hrs, rfl⟩ := h1
      simp only [resAll] at h2
      split at h2
      · rename_i v0 vs0 hv0 hvs0
        obtain rfl := Option.some.inj h2
        obtain ⟨v', q1, q2⟩ := resOne_ok hr hf hS hv0
        obtain ⟨vs', q3, q4⟩ := ih rs' vs0 hrs hvs0
        refine ⟨v' :: vs', ?_, LRel.cons q2 q4⟩
        rw [List.mapM_cons, Sem.run_bind, q1, Result.andThen_ok, Sem.run_bind, q3, Result.andThen_ok, Sem.run_pure]
      · cases h2
  unfold resV at h
  have hall : ∃ vs, resAll fr st.h rs = some vs ∧ v = retV vs := by
    cases hr : resAll fr st.h rs with
    | none => simp [hr] at h
    | some vs =>
      rw [hr] at h
      refine ⟨vs, rfl, ?_⟩
      match vs, h with
      | [], h => exact (Option.some.inj h).symm
      | [x], h => exact (Option.some.inj h).symm
      | x :: y :: l, h => exact (Option.some.inj h).symm
  obtain ⟨vs, hvs, rfl⟩ := hall
  obtain ⟨vs', q1, q2⟩ := key _ _ _ hc hvs
  refine ⟨retV vs', ?_, ?_⟩
  · have e : results fn a.tmps = (do
        let vs ← fn.results.mapM (fun rv => (match rv with | .tmp t => pure (a.tmps.getD t undef) | .cell c t => do loadVar t (← asAddr (a.tmps.getD c undef)) : Sem Value))
        pure (if h : vs.size = 1 then vs[0] else .tuple vs)) := by
      unfold results
      congr 2
    rw [e, Array.mapM_eq_mapM_toList, map_eq_pure_bind]
    simp only [Sem.run_bind, q1, Result.andThen_ok, Sem.run_pure]
    have hgen : ∀ l : List Value, (if h : l.toArray.size = 1 then l.toArray[0] else Value.tuple l.toArray) = retV l := by
      intro l
      match l with
      | [] => rfl
      | [x] => rfl
      | x :: y :: l => simp [retV]
    rw [hgen]
  · match vs, vs', q2 with
    | [], [], q => exact VRel.tuple' q
    | [x], [y], q => exact q.2 0 x y rfl rfl
    | x :: y :: l, x' :: y' :: l', q => exact VRel.tuple' q
    | [], _ :: _, q => have := q.1; simp at this
    | [x], [], q => have := q.1; simp at this
    | [x], _ :: _ :: _, q => have := q.1; simp at this
    | _ :: _ :: _, [], q => have := q.1; simp at this
    | _ :: _ :: _, [_], q => have := q.1; simp at this

/-- What is asked of the table of functions. -/
structure EnvOk (F : Fence) (P : Program) (B : Nat) (E : Env) : Prop where
  code : ∀ f rf, E.F f = some rf → compileF P f = some rf ∧ Callable P f
  sums : ∀ f s, E.S f = some s → Callable P f ∧ ∀ args st o st', s args st = some (o, st') → st.fl = st.h.length → ∀ n ρ w args', LRel ρ args args' → SRel B ρ w st →
    CallsIn F n P f args'.toArray w (CPost B ρ w st fun o2 st2 => o2 = o ∧ st2 = st')
  lt : ∀ f s, E.S f = some s → f < yB
  cmp : ∀ nt c r, E.cmp nt c = some r → compile P nt c = some r ∧ noRange r = true

theorem target_lt {v : Value} {args vs : List Value} {g : FuncId} (h : target v args = some (g, vs)) (hy : ¬ isY v = true) : g < yB := by
  unfold target at h
  split at h
  · split at h
    · rename_i hlt
      simp only [Option.some.injEq, Prod.mk.injEq] at h
      rw [← h.1]; exact hlt
    · cases h
  · simp [isY] at hy
  · cases h

/-- Calls of the deterministic run. -/
def CallsOkD (F : Fence) (P : Program) (B : Nat) (call : CallF) : Prop :=
  ∀ f args st o st', call f args st = some (o, st') → f < yB → Callable P f ∧ (st.fl = st.h.length → ∀ n ρ w args', LRel ρ args args' → SRel B ρ w st → CallsIn F n P f args'.toArray w (CPost B ρ w st fun o2 st2 => o2 = o ∧ st2 = st'))

/-- Regions that draw their order are sound. -/
def DrawOk (F : Fence) (P : Program) (B : Nat) (K : CallF → Prop) : Prop :=
  ∀ (call : CallF), CallsOkD F P B call → K call → ∀ {D : List Deferred} (n nt id : Nat) (ops : Array Oper) (l : List ROper) (fr : Fr) (st : St) (e : Ex) (fr' : Fr) (st' : St) (a : Act) (w : World) (ρ : RM) (Q' : Exit → Act → World → Prop),
    cops P nt ops true = some l → runOpsD call 0 [] l fr st = some (e, fr', st') → FRel D ρ nt fr a → SRel B ρ w st →
    (∀ ρ' a' w', FRel D ρ' nt fr' a' → SRel B ρ' w' st' → Ran B ρ ρ' w w' st st' → Q' .normal a' w') → (Code.region id ops true).wpIn F n P Q' a w

theorem runOpsD_normal {call : CallF} : ∀ (l : List ROper) (i : Nat) (acc : List (Nat × FP)) (fr : Fr) (st : St) (e : Ex) (fr' : Fr) (st' : St), runOpsD call i acc l fr st = some (e, fr', st') → e = .normal := by
  intro l
  induction l with
  | nil => intro i acc fr st e fr' st' h; simp only [runOpsD, Option.some.injEq, Prod.mk.injEq] at h; exact h.1.symm
  | cons o os ih =>
    intro i acc fr st e fr' st' h
    simp only [runOpsD] at h
    split at h
    · split at h
      · split at h
        · cases h
        · exact ih _ _ _ _ _ _ _ h
      · cases h
    · exact ih _ _ _ _ _ _ _ h

theorem callsOkD_of {F : Fence} {B : Nat} {E : Env} {m : Nat} (h : CallsOk F P B (callP E m)) : CallsOkD F P B (callSig E.S (callOf E (exec E m))) := by
  intro f args st o st' hc hf
  exact (h f args st (fun o2 st2 => o2 = o ∧ st2 = st') (sig_of (fun r fr st Q e fr' st' => runP_of m r fr st Q e fr' st') hc ⟨rfl, rfl⟩)).2 hf

/-- The code's theorem, as a statement. -/
def RunOk (F : Fence) (P : Program) (B : Nat) (E : Env) (m : Nat) : Prop :=
  ∀ {D : List Deferred} (n nt : Nat) (c : Code) (R : R) (fr : Fr) (st : St) (Q : Ex → Fr → St → Prop) (a : Act) (w : World) (ρ : RM) (Q' : Exit → Act → World → Prop),
    (F.round = none ∨ noRange R = true) → compile P nt c = some R → runP E m R fr st Q → FRel D ρ nt fr a → SRel B ρ w st →
    (∀ ex fr' st' ρ' e a' w' D', Q ex fr' st' → XRel ρ' ex e → FRel D' ρ' nt fr' a' → SRel B ρ' w' st' → Ran B ρ ρ' w w' st st' → Marks w.heap.size ρ' w' D D' → Q' e a' w') → c.wpIn F n P Q' a w

theorem args_frame {nt : Nat} {args : List Value} {args' : List Value} (h : LRel ρ args args') : FRel [] ρ nt args { tmps := args'.toArray ++ Array.replicate (nt - args'.toArray.size) undef, defers := [] } := by
  refine ⟨by simp; omega, fun i => ?_, rfl⟩
  show VRel ρ (get args i) ((args'.toArray ++ Array.replicate (nt - args'.toArray.size) undef).getD i undef)
  rw [Array.getD_eq_getD_getElem?]
  unfold get
  rw [List.getD_eq_getElem?_getD]
  by_cases hi : i < args.length
  · obtain ⟨b, hb, hv⟩ := h.get (List.getElem?_eq_getElem hi)
    have hi' : i < args'.length := by rw [← h.1]; exact hi
    rw [Array.getElem?_append_left (by simpa using hi'), List.getElem?_eq_getElem hi]
    simp only [List.getElem?_toArray, hb, Option.getD_some]
    exact hv
  · rw [List.getElem?_eq_none (by omega)]
    have : ((args'.toArray ++ Array.replicate (nt - args'.toArray.size) undef)[i]?).getD undef = undef := by
      rw [Array.getElem?_append_right (by simp; have := h.1; omega)]
      cases hq : (Array.replicate (nt - args'.toArray.size) undef)[i - args'.toArray.size]? with
      | none => rfl
      | some x =>
        obtain ⟨_, hx⟩ := Array.getElem?_eq_some_iff.1 hq
        simp at hx
        simp [← hx]
    rw [this]
    exact VRel.undef_ ρ

/-- One round, out of the code's theorem. -/
theorem round_ok {F : Fence} (hF : Open F) {B : Nat} {E : Env} (hE : EnvOk F P B E) {m : Nat} (h : ∀ l, RunOk (F.inRound l) P B E m) {k : Nat} {args args' : List Value} {st : St} {Q : Out → St → Prop} {l : Loc}
    (hc : callPY E (runP E m) k args st Q) (hl : ρ k = some l) (hargs : LRel ρ args args') (hS : SRel B ρ w st) :
    ∃ lf tmps as bd, (Instr.yield l.b args'.toArray).run P w = .ok (.round l.b lf tmps as bd) w ∧ ∀ n, RoundIn F n P l.b lf tmps as bd w (CPost B ρ w st Q) := by
  unfold callPY at hc
  split at hc
  · rename_i b nt fr ps as bd hk
    obtain ⟨hlen, hc⟩ := hc
    split at hc
    · rename_i ra rb ha hb
      obtain ⟨r, h1, _, _, h4, rfl, rfl, h7, h8, h9⟩ := loop_at hS hl hk
      have hsz : args'.toArray.size = r.params.size := by
        have := hargs.1
        have h5 : r.params.size = ps.length := by rw [← h4]; simp
        simp only [List.size_toArray]
        omega
      refine ⟨_, _, _, _, run_yield h1 hsz, fun n => roundIn_of_wpIn (hF.fn _) ?_⟩
      have hfr := putAll_rel ps args args' fr r.tmps h7 h9 h8 hargs
      have htm : (r.params.zip args'.toArray).foldl (fun tmps (x : Tmp × Value) => tmps.setIfInBounds x.1 x.2) r.tmps = (ps.zip args').foldl (fun tmps (x : Tmp × Value) => tmps.setIfInBounds x.1 x.2) r.tmps := by
        rw [← Array.foldl_toList, Array.toList_zip, ← h4]
      rw [← htm] at hfr
      obtain ⟨ca, na⟩ := hE.cmp _ _ _ ha
      obtain ⟨cb, nb⟩ := hE.cmp _ _ _ hb
      refine h l.b n nt _ ra _ st _ _ w ρ _ (.inr na) ca hc hfr hS fun ex fr1 st1 ρ1 e a1 w1 D1 hq hx hf1 hS1 hr1 _ => ?_
      obtain ⟨rfl, st2, ht, hq⟩ := hq
      cases e <;> simp only [XRel] at hx
      obtain ⟨r1, g1, g2, g3⟩ := turn_ok hS1 (hr1.le _ _ hl) ht
      obtain ⟨hS2, hr2⟩ := g3 _ (.inr rfl)
      refine ⟨_, run_beginRound g1 g2, ?_⟩
      refine h l.b n nt _ rb _ st2 _ _ _ ρ1 _ (.inr nb) cb hq hf1 hS2 fun ex fr3 st3 ρ3 e a3 w3 D3 hq3 hx3 hf3 hS3 hr3 _ => ?_
      obtain ⟨rfl, st4, ht4, hq4⟩ := hq3
      cases e <;> simp only [XRel] at hx3
      obtain ⟨r3, k1, k2, k3⟩ := turn_ok hS3 (hr3.le _ _ (hr1.le _ _ hl)) ht4
      obtain ⟨hS4, hr4⟩ := k3 _ (.inl rfl)
      exact ⟨_, _, run_endRound none k1, .bool true, st4, ρ3, hq4, .flat rfl rfl, hS4, (hr1.trans hr2).trans (hr3.trans hr4)⟩
    · exact hc.elim
  · exact hc.elim

theorem callsOk_of {F : Fence} (hF : Open F) (hro : F.round = none) {B : Nat} {E : Env} (hE : EnvOk F P B E) {m : Nat} (h : RunOk F P B E m) (hin : ∀ l, RunOk (F.inRound l) P B E m) : CallsOk F P B (callP E m) := by
  intro f args st Q hc
  unfold callP callPSig at hc
  split at hc
  · rename_i sm hsm
    have hlt := hE.lt f sm hsm
    refine ⟨fun hge => absurd hlt (Nat.not_lt.2 hge), fun _ => ?_⟩
    split at hc
    · rename_i o st' hs
      obtain ⟨hcb, hok⟩ := hE.sums f sm hsm
      refine ⟨hcb, fun hfl n ρ w args' hargs hS => ?_⟩
      refine (hok args st o st' hs hfl n ρ w args' hargs hS).mono fun e w' he => ?_
      cases e with
      | returned v' => obtain ⟨v, st1, ρ1, ⟨h1, rfl⟩, h2⟩ := he; exact ⟨v, st1, ρ1, h1 ▸ hc, h2⟩
      | panicked chain => obtain ⟨v, v', st1, ρ1, ⟨h1, rfl⟩, h2⟩ := he; exact ⟨v, v', st1, ρ1, h1 ▸ hc, h2⟩
      | outgrown => exact he.elim
    · exact hc.elim
  · unfold callPOf at hc
    split at hc
    · rename_i hge
      exact ⟨fun _ ρ w args' l hl hargs hS => round_ok hF hE hin hc hl hargs hS, fun hlt => absurd hlt (Nat.not_lt.2 hge)⟩
    rename_i hnge
    refine ⟨fun hge => absurd hge hnge, fun _ => ?_⟩
    split at hc
    · exact hc.elim
    · rename_i rf hrf
      obtain ⟨hcomp, hcb⟩ := hE.code f rf hrf
      refine ⟨hcb, fun hfl n ρ w args' hargs hS => ?_⟩
      unfold compileF at hcomp
      split at hcomp
      · rename_i fn hfn
        split at hcomp
        · rename_i c hbody
          split at hcomp
          · rename_i r rs hr hrs
            obtain rfl := Option.some.inj hcomp
            refine callsIn_of_wp_marks hfn hbody (hF.fn f) ?_ hro
            refine h n fn.ntmps c r args st _ _ w ρ _ (.inl hro) hr hc (args_frame hargs) hS fun ex fr' st' ρ' e a' w1 D' hq hx hf' hS1 hran1 hmk => ?_
            obtain ⟨rs', hD, hnd, hall⟩ := hmk
            rw [List.append_nil] at hD
            have hleave : ∀ u : FrameMode, u ≠ .run → (∀ w', SRel B ρ' w' st' → Ran B ρ ρ' w w' st st' → LeavesIn F n P fn a'.tmps (CPost B ρ w st Q) [] u w') → LeavesInM F n P fn a'.tmps (CPost B ρ w st Q) a'.defers u w1 := fun u hu hk => by
              rw [hf'.defers, hD]
              exact marks_leave hu rs' w1 hnd (fun r hm => (hall r hm).2.1) fun w' ho =>
                hk w' (hS1.offside ho fun r hm => (hall r hm).2.2) (hran1.offside ho (fun r hm => (hall r hm).1) hS.mem.base)
            -- back from the call
            have hback : ∀ w', SRel B ρ' w' st' → Ran B ρ ρ' w w' st st' → ∀ (o : Out), ((back st o st').1 = o) ∧ ∃ ρ2, SRel B ρ2 w' (back st o st').2 ∧ Ran B ρ ρ2 w w' st (back st o st').2 ∧ ∀ v v', (o = .ret v ∨ o = .pan v) → VRel ρ' v v' → VRel ρ2 v v' := fun w' hS' hran o => by
              unfold back
              split
              · rename_i hcond
                simp only [Bool.and_eq_true, decide_eq_true_eq] at hcond
                have hst : ({ st with fl := st.h.length } : St) = st := by rw [← hfl]
                obtain ⟨b1, b2⟩ := hS.back (by rw [hst]; exact hran) hcond.2
                refine ⟨rfl, ρ, b1, b2, fun v v' ho hv => ?_⟩
                have hsc : Ai.scalar v = true := by rcases ho with rfl | rfl <;> exact hcond.1
                exact hv.scalar' hsc ρ
              · exact ⟨rfl, ρ', hS', hran, fun v v' _ hv => hv⟩
            cases ex with
            | normal =>
              cases e <;> simp only [XRel] at hx
              obtain ⟨v, hv, hqq⟩ := hq
              refine hleave .returning (by simp) fun w' hS' hran => ?_
              obtain ⟨v', h1, h2⟩ := results_ok hrs hf' hS' hv
              obtain ⟨e1, ρ2, b1, b2, b3⟩ := hback w' hS' hran (.ret v)
              rw [e1] at hqq
              exact ⟨v', h1, v, _, ρ2, hqq, b3 v v' (.inl rfl) h2, b1, b2⟩
            | ret =>
              cases e <;> simp only [XRel] at hx
              obtain ⟨v, hv, hqq⟩ := hq
              refine hleave .returning (by simp) fun w' hS' hran => ?_
              obtain ⟨v', h1, h2⟩ := results_ok hrs hf' hS' hv
              obtain ⟨e1, ρ2, b1, b2, b3⟩ := hback w' hS' hran (.ret v)
              rw [e1] at hqq
              exact ⟨v', h1, v, _, ρ2, hqq, b3 v v' (.inl rfl) h2, b1, b2⟩
            | pan v =>
              cases e <;> simp only [XRel] at hx
              obtain ⟨v', h2, rfl⟩ := hx
              refine hleave _ (by simp) fun w' hS' hran => ?_
              obtain ⟨e1, ρ2, b1, b2, b3⟩ := hback w' hS' hran (.pan v)
              have hqq : Q (back st (.pan v) st').1 (back st (.pan v) st').2 := hq
              rw [e1] at hqq
              exact ⟨v, v', _, ρ2, hqq, b3 v v' (.inr rfl) h2, rfl, b1, b2⟩
            | exit id => exact hq.elim
          · cases hcomp
        · cases hcomp
      · cases hcomp

end Go.Ai
namespace Go.Ai
open Go.RowKit
set_option linter.unusedSimpArgs false
set_option linter.unusedVariables false
variable {P : Program} {ρ ρ' : RM} {w w' : World} {D : List Deferred}

theorem loop_rounds {F : Fence} {B : Nat} {E : Env} : ∀ (m : Nat), (∀ j, j < m → RunOk F P B E j) → ∀ {D : List Deferred} (n nt : Nat) (c : Code) (R : R) (fr : Fr) (st : St) (Q : Ex → Fr → St → Prop) (a : Act) (w : World) (ρ : RM) (Q' : Exit → Act → World → Prop),
    (F.round = none ∨ noRange R = true) → compile P nt c = some R → runP E m (.loop R) fr st Q → FRel D ρ nt fr a → SRel B ρ w st →
    (∀ ex fr' st' ρ' e a' w' D', Q ex fr' st' → XRel ρ' ex e → FRel D' ρ' nt fr' a' → SRel B ρ' w' st' → Ran B ρ ρ' w w' st st' → Marks w.heap.size ρ' w' D D' → Q' e a' w') → Code.roundsIn F n P c Q' m a w := by
  intro m
  induction m with
  | zero => intro _ D n nt c R fr st Q a w ρ Q' _ hc hr; exact hr.elim
  | succ m ih =>
    intro hR D n nt c R fr st Q a w ρ Q' hno hc hr hf hS hQ
    rw [roundsIn_succ]
    refine hR m (Nat.lt_succ_self m) n nt c R fr st _ a w ρ _ hno hc hr hf hS fun ex fr' st' ρ' e a' w' D' hq hx hf' hS' hran hmk => ?_
    cases ex with
    | normal =>
      cases e <;> simp only [XRel] at hx
      exact ih (fun j hj => hR j (Nat.lt_succ_of_lt hj)) n nt c R fr' st' Q a' w' ρ' Q' hno hc hq hf' hS' fun ex fr2 st2 ρ2 e a2 w2 D2 q1 q2 q3 q4 q5 q6 => hQ ex fr2 st2 ρ2 e a2 w2 D2 q1 q2 q3 q4 (hran.trans q5) (hmk.trans q5 q6 hran.size)
    | exit id => cases e <;> simp only [XRel] at hx; exact hQ (.exit id) fr' st' ρ' _ a' w' D' hq hx hf' hS' hran hmk
    | ret => cases e <;> simp only [XRel] at hx; exact hQ .ret fr' st' ρ' _ a' w' D' hq trivial hf' hS' hran hmk
    | pan v => cases e <;> simp only [XRel] at hx; exact hQ (.pan v) fr' st' ρ' _ a' w' D' hq hx hf' hS' hran hmk

theorem runOk_all {F : Fence} (hF : Open F) (hro : F.round = none) {B : Nat} {E : Env} (hE : EnvOk F P B E) {K : CallF → Prop} (hK : ∀ m, K (callSig E.S (callOf E (exec E m)))) (hD : ∀ o, DrawOk { F with round := o } P B K) : ∀ m (o : Option Nat), RunOk { F with round := o } P B E m := by
  intro m
  induction m using Nat.strongRecOn with
  | ind m ihm =>
  intro o
  cases m with
  | zero => intro D n nt c R fr st Q a w ρ Q' _ hc hr; exact hr.elim
  | succ m =>
    have hF' : Open { F with round := o } := ⟨hF.fn, hF.depth⟩
    have ih : RunOk { F with round := o } P B E m := ihm m (Nat.lt_succ_self m) o
    have hFn : ({ F with round := none } : Fence) = F := by rw [← hro]
    have h0 : RunOk { F with round := none } P B E m := ihm m (Nat.lt_succ_self m) none
    rw [hFn] at h0
    have hcalls0 : CallsOk F P B (callP E m) := callsOk_of hF hro hE h0 (fun l => ihm m (Nat.lt_succ_self m) (some l))
    have hcalls : CallsOk { F with round := o } P B (callP E m) := hcalls0
    intro D n nt c R fr st Q a w ρ Q' hno hc hr hf hS hQ
    cases c <;> simp only [compile] at hc
    all_goals first | (cases hc; done) | skip
    case skip =>
      obtain rfl := Option.some.inj hc
      exact wpIn_skip (hQ .normal fr st ρ .normal a w D hr trivial hf hS (Ran.refl B ρ w st) (Marks.refl _ _ _ _))
    case exit id =>
      obtain rfl := Option.some.inj hc
      exact wpIn_exit (hQ (.exit id) fr st ρ (.exit id) a w D hr rfl hf hS (Ran.refl B ρ w st) (Marks.refl _ _ _ _))
    case ret =>
      obtain rfl := Option.some.inj hc
      exact wpIn_ret (hQ .ret fr st ρ .ret a w D hr trivial hf hS (Ran.refl B ρ w st) (Marks.refl _ _ _ _))
    case seq c1 c2 =>
      split at hc
      · rename_i r1 r2 h1 h2
        obtain rfl := Option.some.inj hc
        have hn2 : (o = none ∨ noRange r1 = true) ∧ (o = none ∨ noRange r2 = true) := by
          rcases hno with hno | hno
          · exact ⟨.inl hno, .inl hno⟩
          · simp only [noRange, Bool.and_eq_true] at hno; exact ⟨.inr hno.1, .inr hno.2⟩
        refine wpIn_seq (ih n nt c1 r1 fr st _ a w ρ _ hn2.1 h1 hr hf hS fun ex fr' st' ρ' e a' w' D' hq hx hf' hS' hran hmk => ?_)
        cases ex with
        | normal =>
          cases e <;> simp only [XRel] at hx
          exact ih n nt c2 r2 fr' st' Q a' w' ρ' Q' hn2.2 h2 hq hf' hS' fun ex fr2 st2 ρ2 e a2 w2 D2 q1 q2 q3 q4 q5 q6 => hQ ex fr2 st2 ρ2 e a2 w2 D2 q1 q2 q3 q4 (hran.trans q5) (hmk.trans q5 q6 hran.size)
        | exit id => cases e <;> simp only [XRel] at hx; exact hQ (.exit id) fr' st' ρ' _ a' w' D' hq hx hf' hS' hran hmk
        | ret => cases e <;> simp only [XRel] at hx; exact hQ .ret fr' st' ρ' _ a' w' D' hq trivial hf' hS' hran hmk
        | pan v => cases e <;> simp only [XRel] at hx; exact hQ (.pan v) fr' st' ρ' _ a' w' D' hq hx hf' hS' hran hmk
      · cases hc
    case cond cnd c1 c2 =>
      split at hc
      · rename_i r1 r2 h1 h2
        obtain rfl := Option.some.inj hc
        simp only [runP] at hr
        split at hr
        · rename_i b hb
          have hcv : a.eval cnd = .bool b := by
            cases cnd with
            | tmp t => have := hf.rel t; rw [show get fr t = .bool b from hb] at this; exact this.bool
            | const v => exact hb
            | global g => simp [ev, undef] at hb
            | func f => simp [ev] at hb
          have hn2 : (o = none ∨ noRange r1 = true) ∧ (o = none ∨ noRange r2 = true) := by
            rcases hno with hno | hno
            · exact ⟨.inl hno, .inl hno⟩
            · simp only [noRange, Bool.and_eq_true] at hno; exact ⟨.inr hno.1, .inr hno.2⟩
          refine wpIn_cond hcv ?_
          cases b with
          | true => exact ih n nt c1 r1 fr st Q a w ρ Q' hn2.1 h1 hr hf hS hQ
          | false => exact ih n nt c2 r2 fr st Q a w ρ Q' hn2.2 h2 hr hf hS hQ
        · exact hr.elim
      · cases hc
    case block id c1 =>
      simp only [Option.map_eq_some_iff] at hc
      obtain ⟨r1, h1, rfl⟩ := hc
      refine wpIn_block (ih n nt c1 r1 fr st _ a w ρ _ hno h1 hr hf hS fun ex fr' st' ρ' e a' w' D' hq hx hf' hS' hran hmk => ?_)
      cases ex with
      | normal => cases e <;> simp only [XRel] at hx; exact hQ .normal fr' st' ρ' _ a' w' D' hq trivial hf' hS' hran hmk
      | exit id' =>
        cases e <;> simp only [XRel] at hx
        subst hx
        simp only [Exit.inBlock]
        by_cases hid : id' = id
        · simp only [hid, if_true] at hq ⊢
          exact hQ .normal fr' st' ρ' _ a' w' D' hq trivial hf' hS' hran hmk
        · simp only [hid, if_false] at hq ⊢
          exact hQ (.exit id') fr' st' ρ' _ a' w' D' hq rfl hf' hS' hran hmk
      | ret => cases e <;> simp only [XRel] at hx; exact hQ .ret fr' st' ρ' _ a' w' D' hq trivial hf' hS' hran hmk
      | pan v => cases e <;> simp only [XRel] at hx; exact hQ (.pan v) fr' st' ρ' _ a' w' D' hq hx hf' hS' hran hmk
    case loop c1 =>
      simp only [Option.map_eq_some_iff] at hc
      obtain ⟨r1, h1, rfl⟩ := hc
      exact wpIn_loop_rounds (m + 1) (loop_rounds (m + 1) (fun j hj => ihm j hj o) n nt c1 r1 fr st Q a w ρ Q' hno h1 hr hf hS hQ)
    case region id ops draw =>
      simp only [Option.map_eq_some_iff] at hc
      obtain ⟨l, hl, rfl⟩ := hc
      cases draw with
      | false =>
        refine wpIn_region ?_
        unfold cops at hl
        simp [bind, Option.bind_eq_some_iff, guardB] at hl
        exact runL_sound hF' hcalls (List.range ops.size) l fr st Q a w ρ Q' hl hr hf hS fun ex fr' st' ρ' e a' w' q1 q2 q3 q4 q5 => hQ ex fr' st' ρ' e a' w' D q1 q2 q3 q4 q5 (Marks.refl _ _ _ _)
      | true =>
        simp only [runP] at hr
        split at hr
        · rename_i e fr' st' hx
          have he := runOpsD_normal _ _ _ _ _ _ _ _ hx
          subst he
          exact hD o _ (callsOkD_of hcalls) (hK m) n nt id ops l fr st .normal fr' st' a w ρ Q' hl hx hf hS fun ρ' a' w' q1 q2 q3 => hQ .normal fr' st' ρ' .normal a' w' D hr trivial q1 q2 q3 (Marks.refl _ _ _ _)
        · exact hr.elim
    case rangeFunc g ps assign body =>
      split at hc
      · rename_i hcond
        obtain rfl := Option.some.inj hc
        simp only [Bool.and_eq_true] at hcond
        have hps : ∀ p ∈ ps.toList, p < nt := fun p hp => by
          have := Array.all_eq_true_iff_forall_mem.1 hcond.2 p (Array.mem_toList_iff.1 hp)
          simpa using this
        have ho : o = none := by
          rcases hno with h | h
          · exact h
          · simp [noRange] at h
        subst ho
        simp only [runP] at hr
        split at hr
        · rename_i f vs ht
          obtain ⟨hlt, hr⟩ := hr
          refine wpIn_rangeFunc fun fn _ => ?_
          obtain ⟨hS1, hr1, hcol, hun⟩ := looped_ok (fn := fn) (as := assign) (bd := body) hS hf hps
          -- the function's value
          have hgv := ev_rel hf hcond.1
          unfold target at ht
          split at ht
          · rename_i g' first cap hfv
            split at ht
            · simp only [Option.some.injEq, Prod.mk.injEq] at ht
              obtain ⟨rfl, rfl⟩ := ht
              rw [hfv] at hgv
              obtain ⟨rfl, cap', hcv, hcap⟩ := hgv.inv_func
              obtain ⟨hcb, hcall⟩ := (hcalls0 _ _ _ _ hr).2 hlt
              have hargs : LRel (upd ρ st.h.length ⟨w.heap.size + 1, 0, 0, 0⟩) ((#[] : Array Value).toList ++ [tok st.h.length] ++ cap.toList) ((#[.func (.yield (w.heap.size + 1)) #[] #[]] : Array Value) ++ cap').toList := by
                have h1 : LRel (upd ρ st.h.length ⟨w.heap.size + 1, 0, 0, 0⟩) [tok st.h.length] [.func (.yield (w.heap.size + 1)) #[] #[]] := LRel.cons (VRel.yld (upd_at _ _ _)) (LRel.nil _)
                simpa using h1.append (hcap.mono hr1.le)
              have hS1' := hS1.fl (st.h.length + 1)
              have hgo := hcall (by simp [looped]) (n - 1) _ _ _ hargs hS1'
              refine ⟨w.heap.size + 1, [mark w.heap.size], ((w.alloc (.deferred (some []))).alloc (.loop { state := .ready, pending := none, fn, tmps := a.tmps, params := ps, assign := assign, body := body, defers := w.heap.size })), { target := .fn (.func g') cap', args := #[.func (.yield (w.heap.size + 1)) #[] #[]] }, ((w.alloc (.deferred (some []))).alloc (.loop { state := .ready, pending := none, fn, tmps := a.tmps, params := ps, assign := assign, body := body, defers := w.heap.size })), g', (#[.func (.yield (w.heap.size + 1)) #[] #[]] : Array Value) ++ cap', ((w.alloc (.deferred (some []))).alloc (.loop { state := .ready, pending := none, fn, tmps := a.tmps, params := ps, assign := assign, body := body, defers := w.heap.size })),
                run_enterLoop_outer fn a.tmps ps assign body, ?_, fun f' _ => hF.fn f', ?_, fun h => absurd h (by rw [hF'.depth]; simp), hgo.mono fun e w3 he => ?_⟩
              · have hconst : ∀ v, a.eval (.const v) = v := fun _ => rfl
                simp [rangeCall, resolve, hcv, Deferred.ofValue, hconst]
              · simp [invoke, run_callFunc hcb]
              · cases e with
                | returned v' =>
                  obtain ⟨v, st2, ρ2, h1, h2, h3, h4⟩ := he
                  obtain ⟨st3, hov, hq⟩ := h1
                  have hlen : st.h.length + 1 = (looped nt fr ps.toList assign body st).h.length := by simp [looped]
                  rw [hlen] at h4
                  have hj := h4.joined hS1.full
                  have hSj : SRel B ρ2 w3 (joined (looped nt fr ps.toList assign body st) st2) := ⟨h3.mem, h3.full⟩
                  obtain ⟨r, k1, k2, k3, k4⟩ := over_ok hSj (hj.le _ _ (upd_at _ _ _)) hov
                  obtain ⟨hS3, hr3⟩ := k4 (.loop { r with state := .exhausted })
                  refine ⟨none, w3.putObj (w.heap.size + 1) (.loop { r with state := .exhausted }), ?_, ?_⟩
                  · have := run_endLoop (P := P) k1 (by rw [k2]; simp)
                    exact this.trans (by rw [k3])
                  · have hran := (hr1.trans hj).trans hr3
                    have hmk : Marks w.heap.size (upd ρ st.h.length ⟨w.heap.size + 1, 0, 0, 0⟩) ((w.alloc (.deferred (some []))).alloc (.loop { state := .ready, pending := none, fn, tmps := a.tmps, params := ps, assign := assign, body := body, defers := w.heap.size })) D ([mark w.heap.size] ++ D) :=
                      ⟨[w.heap.size], rfl, by simp, fun r hr => by simp at hr; subst hr; exact ⟨Nat.le_refl _, hcol, hun⟩⟩
                    refine hQ .normal fr st3 ρ2 .normal _ _ ([mark w.heap.size] ++ D) hq trivial ⟨hf.size, fun i => (hf.rel i).mono hran.le, by rw [← hf.defers]⟩ hS3 hran (hmk.ran (hj.trans hr3))
                | panicked chain =>
                  obtain ⟨v, v', st2, ρ2, h1, _⟩ := he
                  exact h1.elim
                | outgrown => exact he.elim
            · cases ht
          · simp only [Option.some.injEq, Prod.mk.injEq] at ht
            rw [← ht.1] at hlt
            exact absurd hlt (Nat.not_lt.2 (Nat.le_add_right _ _))
          · cases ht
        · exact hr.elim
      · cases hc

theorem runOk {F : Fence} (hF : Open F) (hro : F.round = none) {B : Nat} {E : Env} (hE : EnvOk F P B E) {K : CallF → Prop} (hK : ∀ m, K (callSig E.S (callOf E (exec E m)))) (hD : ∀ o, DrawOk { F with round := o } P B K) (m : Nat) : RunOk F P B E m := by
  have this : RunOk { F with round := none } P B E m := runOk_all hF hro hE hK hD m none
  have hFn : ({ F with round := none } : Fence) = F := by rw [← hro]
  rwa [hFn] at this

end Go.Ai
namespace Go.Ai
open Go.RowKit
set_option linter.unusedSimpArgs false
set_option linter.unusedVariables false
variable {P : Program} {ρ ρ' : RM} {w w' : World}

structure TStep (call : CallF) (r : ROper) (fr : Fr) (st : St) (v : Value) (fr1 : Fr) (st1 : St) (fp : FP) : Prop where
  put : fr1 = putD fr r.dst v
  act : (wanted fr r.guard = false ∧ v = undef ∧ st1 = st ∧ fp = {}) ∨ (wanted fr r.guard = true ∧ opD call r.op (ev fr) st = some (v, st1, fp))

structure Trace (call : CallF) (l : List ROper) (i0 : Nat) (frs : Nat → Fr) (sts : Nat → St) (fps : Nat → FP) (vs : Nat → Value) : Prop where
  step : ∀ k r, l[k]? = some r → TStep call r (frs k) (sts k) (vs k) (frs (k + 1)) (sts (k + 1)) (fps k)
  clash : ∀ j k r, j < k → l[k]? = some r → r.anc.testBit (i0 + j) = false → (fps j).clash (fps k) = false

theorem hits_empty (x : FP) : x.hits {} = false := by
  cases x
  simp [FP.hits, FP.touches]
theorem empty_hits (x : FP) : FP.hits {} x = false := by simp [FP.hits]
theorem clash_empty (x : FP) : x.clash {} = false := by simp [FP.clash, hits_empty, empty_hits]
theorem empty_clash (x : FP) : FP.clash {} x = false := by simp [FP.clash, hits_empty, empty_hits]

def consN {α : Type} (a : α) (f : Nat → α) : Nat → α
  | 0 => a
  | n + 1 => f n

def TraceTo (call : CallF) (l : List ROper) (i : Nat) (acc : List (Nat × FP)) (fr : Fr) (st : St) (fr' : Fr) (st' : St) : Prop :=
  ∃ frs sts fps vs, Trace call l i frs sts fps vs ∧ frs 0 = fr ∧ sts 0 = st ∧ frs l.length = fr' ∧ sts l.length = st' ∧
    ∀ k r, l[k]? = some r → ∀ q ∈ acc, r.anc.testBit q.1 = false → q.2.clash (fps k) = false

theorem trace_of {call : CallF} : ∀ (l : List ROper) (i : Nat) (acc : List (Nat × FP)) (fr : Fr) (st : St) (e : Ex) (fr' : Fr) (st' : St), runOpsD call i acc l fr st = some (e, fr', st') → TraceTo call l i acc fr st fr' st' := by
  intro l
  induction l with
  | nil =>
    intro i acc fr st e fr' st' h
    simp only [runOpsD, Option.some.injEq, Prod.mk.injEq] at h
    obtain ⟨_, rfl, rfl⟩ := h
    exact ⟨fun _ => fr, fun _ => st, fun _ => {}, fun _ => undef, ⟨fun k r h => by simp at h, fun j k r _ h => by simp at h⟩, rfl, rfl, rfl, rfl, fun k r h => by simp at h⟩
  | cons o os ih =>
    intro i acc fr st e fr' st' h
    simp only [runOpsD] at h
    -- what one operation brings
    have fin : ∀ (v : Value) (st1 : St) (fp : FP) (acc1 : List (Nat × FP)), TStep call o fr st v (putD fr o.dst v) st1 fp → (∀ q ∈ acc, o.anc.testBit q.1 = false → q.2.clash fp = false) → ((i, fp) ∈ acc1 ∨ fp = {}) → (∀ q ∈ acc, q ∈ acc1) →
        runOpsD call (i + 1) acc1 os (putD fr o.dst v) st1 = some (e, fr', st') → TraceTo call (o :: os) i acc fr st fr' st' := fun v st1 fp acc1 hst hcl hin hsub hrun => by
      obtain ⟨frs, sts, fps, vs, htr, h0, h1, h2, h3, h4⟩ := ih _ _ _ _ _ _ _ hrun
      refine ⟨consN fr frs, consN st sts, consN fp fps, consN v vs, ⟨?_, ?_⟩, rfl, rfl, h2, h3, ?_⟩
      · intro k r hk
        cases k with
        | zero =>
          simp at hk; subst hk
          show TStep call o fr st v (frs 0) (sts 0) fp
          rw [h0, h1]; exact hst
        | succ k => exact htr.step k r (by simpa using hk)
      · intro j k r hjk hk hanc
        cases k with
        | zero => omega
        | succ k =>
          cases j with
          | zero =>
            rcases hin with hin | rfl
            · exact h4 k r (by simpa using hk) _ hin (by simpa using hanc)
            · exact empty_clash _
          | succ j => exact htr.clash j k r (by omega) (by simpa using hk) (by rw [show i + 1 + j = i + (j + 1) by omega]; exact hanc)
      · intro k r hk q hq hanc
        cases k with
        | zero => simp at hk; subst hk; exact hcl q hq hanc
        | succ k => exact h4 k r (by simpa using hk) q (hsub q hq) hanc
    split at h
    · rename_i hw
      split at h
      · rename_i v st1 fp hop
        split at h
        · cases h
        · rename_i hcl
          refine fin v st1 fp ((i, fp) :: acc) ⟨rfl, .inr ⟨hw, hop⟩⟩ ?_ (.inl (by simp)) (fun q hq => by simp [hq]) h
          intro q hq hanc
          simp only [clashes, List.any_eq_true, Bool.and_eq_true, Bool.not_eq_true', not_exists, not_and, Bool.not_eq_true] at hcl
          exact hcl q hq hanc
      · cases h
    · rename_i hw
      exact fin undef st {} acc ⟨rfl, .inl ⟨by simpa using hw, rfl, rfl, rfl⟩⟩ (fun q _ _ => clash_empty _) (.inr rfl) (fun q hq => hq) h

end Go.Ai
namespace Go.Ai
open Go.RowKit
set_option linter.unusedSimpArgs false
set_option linter.unusedVariables false
variable {P : Program} {ρ ρ' : RM} {w w' : World}

/-! ### Ancestors -/
def befVal (acc : Array Nat) (o : Oper) : Nat := o.after.foldl (fun s e => if Region.binds .any e then s ||| 2 ^ e.on ||| acc.getD e.on 0 else s) 0
def befStep (acc : Array Nat) (o : Oper) : Array Nat := acc.push (befVal acc o)
theorem before_eq (ops : Array Oper) : Region.before ops = ops.toList.foldl befStep #[] := by
  unfold Region.before
  rw [← Array.foldl_toList]
  rfl
theorem befStep_keep : ∀ (l : List Oper) (A : Array Nat) (k : Nat), k < A.size → (l.foldl befStep A).getD k 0 = A.getD k 0 := by
  intro l
  induction l with
  | nil => intro A k _; rfl
  | cons o l ih =>
    intro A k hk
    rw [List.foldl_cons, ih _ _ (by simp [befStep]; omega)]
    unfold befStep
    simp only [Array.getD_eq_getD_getElem?]
    rw [Array.getElem?_push_lt hk]
    simp [hk]
theorem befStep_size : ∀ (l : List Oper) (A : Array Nat), (l.foldl befStep A).size = A.size + l.length := by
  intro l
  induction l with
  | nil => intro A; rfl
  | cons o l ih => intro A; rw [List.foldl_cons, ih]; simp [befStep]; omega
theorem befVal_bit {acc : Array Nat} {o : Oper} {j : Nat} (h : (befVal acc o).testBit j = true) : ∃ e ∈ o.after, Region.binds .any e = true ∧ (e.on = j ∨ (acc.getD e.on 0).testBit j = true) := by
  have key : ∀ (l : List Edge) (s : Nat), (l.foldl (fun s e => if Region.binds .any e then s ||| 2 ^ e.on ||| acc.getD e.on 0 else s) s).testBit j = true →
      s.testBit j = true ∨ ∃ e ∈ l, Region.binds .any e = true ∧ (e.on = j ∨ (acc.getD e.on 0).testBit j = true) := by
    intro l
    induction l with
    | nil => intro s h; exact .inl h
    | cons e l ih =>
      intro s h
      rw [List.foldl_cons] at h
      rcases ih _ h with h1 | ⟨e', h1, h2⟩
      · split at h1
        · rename_i hb
          rw [Nat.testBit_or, Nat.testBit_or, Bool.or_eq_true, Bool.or_eq_true] at h1
          rcases h1 with (h1 | h1) | h1
          · exact .inl h1
          · rw [Nat.testBit_two_pow] at h1
            exact .inr ⟨e, by simp, hb, .inl (by simpa using h1)⟩
          · exact .inr ⟨e, by simp, hb, .inr h1⟩
        · exact .inl h1
      · exact .inr ⟨e', by simp [h1], h2⟩
  unfold befVal at h
  rw [← Array.foldl_toList] at h
  rcases key _ _ h with h1 | ⟨e, h1, h2⟩
  · simp at h1
  · exact ⟨e, by simpa using h1, h2⟩

theorem before_spec {ops : Array Oper} {i j : Nat} {o : Oper} (ho : ops[i]? = some o) (h : ((Region.before ops).getD i 0).testBit j = true) :
    ∃ e ∈ o.after, Region.binds .any e = true ∧ (e.on = j ∨ ((Region.before ops).getD e.on 0).testBit j = true) := by
  have hi : i < ops.toList.length := by simpa using (Array.getElem?_eq_some_iff.1 ho).1
  have hoi : ops.toList[i] = o := by
    have := (Array.getElem?_eq_some_iff.1 ho).2
    simpa using this
  have hsplit : ops.toList = ops.toList.take i ++ o :: ops.toList.drop (i + 1) := by
    rw [← hoi]; exact (List.take_append_drop i ops.toList).symm.trans (by rw [List.drop_eq_getElem_cons hi])
  have hA : ((ops.toList.take i).foldl befStep #[]).size = i := by
    have hi' : i < ops.size := by simpa using hi
    rw [befStep_size]; simp; omega
  have hfin : Region.before ops = (ops.toList.drop (i + 1)).foldl befStep (befStep ((ops.toList.take i).foldl befStep #[]) o) := by
    rw [before_eq]
    conv => lhs; rw [hsplit]
    rw [List.foldl_append, List.foldl_cons]
  generalize (ops.toList.take i).foldl befStep #[] = A at hA hfin
  have hval : (Region.before ops).getD i 0 = befVal A o := by
    rw [hfin, befStep_keep _ _ _ (by simp [befStep, hA])]
    unfold befStep
    simp [Array.getD_eq_getD_getElem?, ← hA]
  rw [hval] at h
  obtain ⟨e, he, hb, h1⟩ := befVal_bit h
  refine ⟨e, he, hb, ?_⟩
  rcases h1 with h1 | h1
  · exact .inl h1
  · right
    by_cases hlt : e.on < A.size
    · rw [hfin, befStep_keep _ _ _ (by simp [befStep]; omega)]
      unfold befStep
      simp only [Array.getD_eq_getD_getElem?]
      rw [Array.getElem?_push_lt hlt]
      simpa [Array.getD_eq_getD_getElem?, hlt] using h1
    · simp [Array.getD_eq_getD_getElem?, Array.getElem?_eq_none (Nat.not_lt.1 hlt)] at h1

/-! ### What is kept -/
structure Kept (st st' : St) : Prop where
  fl : st'.fl ≤ st.fl
  len : st.h.length ≤ st'.h.length
  same : ∀ id, id < st.h.length → id < st'.fl → st'.h[id]? = st.h[id]?
theorem Kept.refl (st : St) : Kept st st := ⟨Nat.le_refl _, Nat.le_refl _, fun _ _ _ => rfl⟩
theorem Kept.trans {a b c : St} (h : Kept a b) (k : Kept b c) : Kept a c :=
  ⟨Nat.le_trans k.fl h.fl, Nat.le_trans h.len k.len, fun id h1 h2 => (k.same id (Nat.lt_of_lt_of_le h1 h.len) h2).trans (h.same id h1 (Nat.lt_of_lt_of_le h2 k.fl))⟩

/-- A step: what it writes is in its footprint. -/
structure KeptW (st st' : St) (ws : List Nat) : Prop where
  fl : st'.fl ≤ st.fl
  len : st.h.length ≤ st'.h.length
  same : ∀ id, id < st.h.length → id ∉ ws → st'.h[id]? = st.h[id]?
  low : ∀ id, id < st.h.length → id < st'.fl → st'.h[id]? = st.h[id]?
theorem KeptW.refl (st : St) (ws : List Nat) : KeptW st st ws := ⟨Nat.le_refl _, Nat.le_refl _, fun _ _ _ => rfl, fun _ _ _ => rfl⟩
theorem KeptW.snoc (st : St) (o : O) (ws : List Nat) : KeptW st { st with h := st.h ++ [o] } ws :=
  ⟨Nat.le_refl _, by simp, fun id h _ => List.getElem?_append_left h, fun id h _ => List.getElem?_append_left h⟩
theorem KeptW.set (st : St) {b : Nat} (o : O) {ws : List Nat} (hb : b ∈ ws) : KeptW st { st with h := st.h.set b o, fl := min st.fl b } ws := by
  refine ⟨Nat.min_le_left _ _, by simp, fun id _ hn => List.getElem?_set_ne (fun e => ?_), fun id _ hl => List.getElem?_set_ne (fun e => ?_)⟩
  · subst e; exact hn hb
  · subst e
    have h1 : b < min st.fl b := hl
    have h2 : min st.fl b ≤ b := Nat.min_le_right _ _
    omega
theorem KeptW.floor (st : St) {b : Nat} {ws : List Nat} : KeptW st { st with fl := min st.fl b } ws :=
  ⟨Nat.min_le_left _ _, Nat.le_refl _, fun _ _ _ => rfl, fun _ _ _ => rfl⟩
theorem KeptW.wr {st : St} {h' : List O} {b i : Nat} {vs : List Value} {ws : List Nat} (hw : wrN st.h b i vs = some h') (hb : b ∈ ws) : KeptW st { st with h := h', fl := min st.fl b } ws := by
  unfold wrN at hw
  split at hw
  · split at hw
    · obtain rfl := Option.some.inj hw
      exact KeptW.set st _ hb
    · cases hw
  · cases hw

theorem appendCells_kept {elem : TypeId} {size b sLen sCap n : Nat} {base : Option Addr} {new : List Value} {st st' : St} {v : Value} (ha : appendCells elem size b base sLen sCap n new st = some (v, st')) : KeptW st st' (blk (.slice base sLen sCap)) := by
  unfold appendCells at ha
  split at ha
  · obtain ⟨rfl, rfl⟩ := Prod.mk.inj (Option.some.inj ha)
    exact KeptW.refl _ _
  · split at ha
    · split at ha
      · simp only [bind, Option.bind_eq_some_iff, Option.some.injEq, Prod.mk.injEq] at ha
        obtain ⟨h1, hw, rfl, rfl⟩ := ha
        exact KeptW.wr hw (by simp [blk])
      · cases ha
    · split at ha
      · simp only [bind, Option.bind_eq_some_iff, Option.some.injEq, Prod.mk.injEq] at ha
        obtain ⟨old, hold, st1, hkill, rfl, rfl⟩ := ha
        have hk : KeptW st st1 (blk (.slice base sLen sCap)) := by
          unfold kill at hkill
          (repeat' split at hkill) <;> first
            | (cases hkill; done)
            | (obtain rfl := Option.some.inj hkill; exact KeptW.refl _ _)
            | (obtain rfl := Option.some.inj hkill; exact KeptW.set st _ (by simp [blk]))
        have hs := KeptW.snoc st1 (.cells (old ++ new) elem (some size)) (blk (.slice base sLen sCap))
        exact ⟨Nat.le_trans hs.fl hk.fl, Nat.le_trans hk.len hs.len, fun id h1 h2 => (hs.same id (Nat.lt_of_lt_of_le h1 hk.len) h2).trans (hk.same id h1 h2), fun id h1 h2 => (hs.low id (Nat.lt_of_lt_of_le h1 hk.len) h2).trans (hk.low id h1 (Nat.lt_of_lt_of_le h2 hs.fl))⟩
      · cases ha

end Go.Ai
namespace Go.Ai
open Go.RowKit
set_option linter.unusedSimpArgs false
set_option linter.unusedVariables false
variable {P : Program} {ρ ρ' : RM} {w w' : World}

theorem step_kept {r : ROp} {e : Operand → Value} {st st' : St} {v : Value} (h : step r e st = some (.val v, st')) : KeptW st st' (fpOf r e st).w := by
  cases r
  case copy =>
    simp only [step] at h
    split at h
    · rename_i da dn dc sa sn sc hd hs
      simp only [bind, Option.bind_eq_some_iff] at h
      obtain ⟨a, _, h⟩ := h
      split at h
      · simp at h; obtain ⟨rfl, rfl⟩ := h; exact KeptW.refl _ _
      · split at h
        · simp only [Option.bind_eq_some_iff, Option.some.injEq, Prod.mk.injEq] at h
          obtain ⟨h1, hw, _, rfl⟩ := h
          exact KeptW.wr hw (by simp_all [fpOf, blk])
        · cases h
    · cases h
  case store =>
    simp only [step] at h
    split at h
    · simp only [bind, Option.ite_none_right_eq_some, Option.bind_eq_some_iff, Option.some.injEq, Prod.mk.injEq] at h
      obtain ⟨_, h1, hw, _, rfl⟩ := h
      exact KeptW.wr hw (by simp_all [fpOf, blk])
    · cases h
  case append =>
    simp only [step, Option.map_eq_some_iff, Prod.mk.injEq] at h
    obtain ⟨⟨v0, s0⟩, ha, _, rfl⟩ := h
    unfold appendV at ha
    split at ha
    · rename_i hs hx
      simp only [bind, Option.bind_eq_some_iff] at ha
      obtain ⟨_, _, ha⟩ := ha
      have := appendCells_kept ha
      simp only [fpOf, hs]
      exact this
    · cases ha
  case appendZ =>
    simp only [step, Option.map_eq_some_iff, Prod.mk.injEq] at h
    obtain ⟨⟨v0, s0⟩, ha, _, rfl⟩ := h
    unfold appendZV at ha
    split at ha
    · rename_i hs hx
      split at ha
      · have := appendCells_kept ha
        simp only [fpOf, hs]
        exact this
      · cases ha
    · cases ha
  case load n a => cases n <;> simp only [step] at h <;> split at h <;> simp at h <;> (obtain ⟨_, _, _, rfl⟩ := h; exact KeptW.refl _ _)
  case mapUpd =>
    simp only [step] at h
    split at h
    · split at h
      · simp only [bind, Option.bind_eq_some_iff, Option.some.injEq, Prod.mk.injEq] at h
        obtain ⟨f, _, _, rfl⟩ := h
        cases f <;> exact KeptW.set _ _ (by simp_all [fpOf, blk])
      · cases h
    · cases h
  case mapEntry =>
    simp only [step] at h
    split at h
    · split at h
      · simp only [bind, Option.bind_eq_some_iff] at h
        obtain ⟨f, _, h⟩ := h
        cases f <;> simp at h <;> obtain ⟨_, rfl⟩ := h
        · exact KeptW.set _ _ (by simp_all [fpOf, blk])
        · exact KeptW.floor _
      · cases h
    · cases h
  case entryStore =>
    simp only [step] at h
    split at h
    · split at h
      · split at h
        · simp at h; obtain ⟨_, rfl⟩ := h; exact KeptW.set _ _ (by simp_all [fpOf, blk])
        · cases h
      · cases h
    · cases h
  case delete =>
    simp only [step] at h
    split at h
    · split at h
      · simp only [bind, Option.bind_eq_some_iff, Option.some.injEq, Prod.mk.injEq] at h
        obtain ⟨f, _, _, rfl⟩ := h
        exact KeptW.set _ _ (by simp_all [fpOf, blk])
      · cases h
    · cases h
  case next it =>
    have hblk : ∀ r b since seen l, nextC (e it) st = some (r, b, since, seen, l) → blk (e it) = [r] := by
      intro r b since seen l hn
      unfold nextC at hn
      split at hn
      · rename_i r0 hit
        split at hn
        · split at hn
          · split at hn
            · simp only [Option.map_eq_some_iff, Prod.mk.injEq] at hn
              obtain ⟨_, _, rfl, _⟩ := hn
              simp [hit, blk]
            · cases hn
          · cases hn
        · cases hn
      · cases hn
    simp only [step] at h
    split at h
    · rename_i r b since seen hn
      simp at h; obtain ⟨_, rfl⟩ := h
      exact KeptW.set _ _ (by simp [fpOf, hblk _ _ _ _ _ hn])
    · rename_i r b since seen en hn
      simp at h; obtain ⟨_, rfl⟩ := h
      exact KeptW.set _ _ (by simp [fpOf, hblk _ _ _ _ _ hn])
    · cases h
  case buildSlice =>
    simp only [step] at h
    split at h
    · simp at h; obtain ⟨_, rfl⟩ := h; exact KeptW.refl _ _
    · simp [bind, Option.bind_eq_some_iff] at h
      obtain ⟨_, _, _, rfl⟩ := h
      exact KeptW.snoc _ _ _
  case eqNil =>
    simp only [step, Option.map_eq_some_iff, Prod.mk.injEq] at h
    obtain ⟨_, _, _, rfl⟩ := h
    exact KeptW.refl _ _
  all_goals
    simp only [step] at h
    (repeat' split at h) <;> simp [bind, Option.bind_eq_some_iff] at h
    all_goals first
      | (obtain ⟨_, rfl⟩ := h; first | exact KeptW.refl _ _ | exact KeptW.snoc _ _ _)
      | (obtain ⟨_, _, rfl⟩ := h; first | exact KeptW.refl _ _ | exact KeptW.snoc _ _ _)
      | (obtain ⟨_, _, _, rfl⟩ := h; first | exact KeptW.refl _ _ | exact KeptW.snoc _ _ _)
      | (obtain ⟨_, _, _, _, rfl⟩ := h; first | exact KeptW.refl _ _ | exact KeptW.snoc _ _ _)
      | (obtain ⟨_, _, _, _, _, rfl⟩ := h; first | exact KeptW.refl _ _ | exact KeptW.snoc _ _ _)

theorem KeptW.kept {st st' : St} {ws : List Nat} (h : KeptW st st' ws) : Kept st st' := ⟨h.fl, h.len, h.low⟩

/-- A panic's step changes nothing. -/
theorem step_kept' {r : ROp} {e : Operand → Value} {st st' : St} {x : Res} (h : step r e st = some (x, st')) : Kept st st' := by
  cases x with
  | val v => exact (step_kept h).kept
  | pan v => obtain ⟨_, _, _, _, _, _, rfl⟩ := step_pan_inv h; exact Kept.refl _

def CallKept (call : CallF) : Prop := ∀ f args st o st', call f args st = some (o, st') → Kept st st'

theorem joined_kept {st st' : St} (h : Kept { st with fl := st.h.length } st') : Kept st (joined st st') := by
  have hcase : (joined st st').fl ≤ st'.fl ∨ st.h.length ≤ st'.fl := by
    unfold joined
    by_cases h : st'.fl < st.h.length
    · left; simp only [h, if_true]; exact Nat.min_le_right _ _
    · right; omega
  refine ⟨?_, h.len, fun id h1 h2 => h.same id h1 ?_⟩
  · unfold joined
    by_cases h : st'.fl < st.h.length
    · simp only [h, if_true]; exact Nat.min_le_left _ _
    · simp only [h, if_false]; exact Nat.le_refl _
  · rcases hcase with hc | hc
    · exact Nat.lt_of_lt_of_le h2 hc
    · exact Nat.lt_of_lt_of_le h1 hc

theorem doCall_kept {call : CallF} (hc : CallKept call) {f : Operand} {args : List Operand} {e : Operand → Value} {st st' : St} {o : Out} (h : doCall call f args e st = some (o, st')) : Kept { st with fl := st.h.length } st' := by
  unfold doCall at h
  split at h
  · exact hc _ _ _ _ _ h
  · cases h

theorem runOps_kept {call : CallF} (hc : CallKept call) : ∀ (l : List ROper) (fr : Fr) (st : St) e fr' st', runOps call l fr st = some (e, fr', st') → Kept st st' := by
  intro l
  induction l with
  | nil => intro fr st e fr' st' h; simp only [runOps, Option.some.injEq, Prod.mk.injEq] at h; obtain ⟨_, _, rfl⟩ := h; exact Kept.refl _
  | cons o os ih =>
    intro fr st e fr' st' h
    simp only [runOps] at h
    split at h
    · cases hop : o.op <;> simp only [hop] at h
      case call f args =>
        split at h
        · rename_i v st1 h1
          exact (joined_kept (doCall_kept hc h1)).trans (ih _ _ _ _ _ h)
        · rename_i v st1 h1
          simp only [Option.some.injEq, Prod.mk.injEq] at h
          obtain ⟨_, _, rfl⟩ := h
          exact joined_kept (doCall_kept hc h1)
        · cases h
      all_goals
        split at h
        · rename_i v st1 hs
          exact (step_kept' hs).trans (ih _ _ _ _ _ h)
        · rename_i v st1 hs
          simp only [Option.some.injEq, Prod.mk.injEq] at h
          obtain ⟨_, _, rfl⟩ := h
          exact step_kept' hs
        · cases h
    · exact ih _ _ _ _ _ h

theorem opD_kept {call : CallF} (hc : CallKept call) {r : ROp} {e : Operand → Value} {st st' : St} {v : Value} {fp : FP} (h : opD call r e st = some (v, st', fp)) : Kept st st' := by
  unfold opD at h
  split at h
  · split at h
    · cases h
    split at h
    · rename_i h1
      simp only [Option.some.injEq, Prod.mk.injEq] at h
      obtain ⟨_, rfl, _⟩ := h
      exact joined_kept (doCall_kept hc h1)
    · cases h
  · split at h
    · rename_i h1
      simp only [Option.some.injEq, Prod.mk.injEq] at h
      obtain ⟨_, rfl, _⟩ := h
      exact step_kept' h1
    · cases h

theorem runOpsD_kept {call : CallF} (hc : CallKept call) : ∀ (l : List ROper) (i : Nat) (acc : List (Nat × FP)) (fr : Fr) (st : St) e fr' st', runOpsD call i acc l fr st = some (e, fr', st') → Kept st st' := by
  intro l
  induction l with
  | nil => intro i acc fr st e fr' st' h; simp only [runOpsD, Option.some.injEq, Prod.mk.injEq] at h; obtain ⟨_, _, rfl⟩ := h; exact Kept.refl _
  | cons o os ih =>
    intro i acc fr st e fr' st' h
    simp only [runOpsD] at h
    split at h
    · split at h
      · rename_i h1
        split at h
        · cases h
        · exact (opD_kept hc h1).trans (ih _ _ _ _ _ _ _ h)
      · cases h
    · exact ih _ _ _ _ _ _ _ h

/-- Summaries keep. -/
def SumsKept (E : Env) : Prop := ∀ f s, E.S f = some s → ∀ args st o st', s args st = some (o, st') → Kept st st'

theorem back_kept {st st' : St} {o : Out} (h : Kept st st') : Kept st (back st o st').2 := by
  unfold back
  split
  · exact Kept.refl _
  · exact h

theorem Kept.set (st : St) {k : Nat} (o : O) : Kept st { st with h := st.h.set k o, fl := min st.fl k } := (KeptW.set st o (ws := [k]) (by simp)).kept
theorem turn_kept {b : Bool} {k : Nat} {st st' : St} (h : turn b k st = some st') : Kept st st' := by
  unfold turn at h
  split at h
  · split at h
    · obtain rfl := Option.some.inj h; exact Kept.set st _
    · cases h
  · cases h
theorem over_kept {k : Nat} {st st' : St} (h : over k st = some st') : Kept st st' := by
  unfold over at h
  split at h
  · obtain rfl := Option.some.inj h; exact Kept.set st _
  · cases h
theorem callY_kept {E : Env} {X : R → Fr → St → Option (Ex × Fr × St)} (hX : ∀ r fr st e fr' st', X r fr st = some (e, fr', st') → Kept st st') {k : Nat} {args : List Value} {st st' : St} {o : Out} (h : callY E X k args st = some (o, st')) : Kept st st' := by
  unfold callY at h
  split at h
  · split at h
    · split at h
      · split at h
        · rename_i h1
          split at h
          · rename_i h2
            split at h
            · rename_i h3
              simp only [Option.map_eq_some_iff, Prod.mk.injEq] at h
              obtain ⟨st4, h4, _, rfl⟩ := h
              exact (hX _ _ _ _ _ _ h1).trans ((turn_kept h2).trans ((hX _ _ _ _ _ _ h3).trans (turn_kept h4)))
            · cases h
          · cases h
        · cases h
      · cases h
    · cases h
  · cases h

theorem callKept_of {E : Env} (hS : SumsKept E) {X : R → Fr → St → Option (Ex × Fr × St)} (hX : ∀ r fr st e fr' st', X r fr st = some (e, fr', st') → Kept st st') : CallKept (callSig E.S (callOf E X)) := by
  intro f args st o st' h
  unfold callSig at h
  split at h
  · rename_i s hs
    exact hS f s hs args st o st' h
  · unfold callOf at h
    split at h
    · exact callY_kept hX h
    split at h
    · cases h
    · split at h
      · rename_i h1
        simp only [Option.map_eq_some_iff] at h
        obtain ⟨v, _, hb⟩ := h
        have := back_kept (o := .ret v) (hX _ _ _ _ _ _ h1)
        rw [hb] at this; exact this
      · rename_i h1
        simp only [Option.map_eq_some_iff] at h
        obtain ⟨v, _, hb⟩ := h
        have := back_kept (o := .ret v) (hX _ _ _ _ _ _ h1)
        rw [hb] at this; exact this
      · rename_i v _ _ h1
        simp only [Option.some.injEq] at h
        have := back_kept (o := .pan v) (hX _ _ _ _ _ _ h1)
        rw [h] at this; exact this
      · cases h

theorem exec_kept {E : Env} (hS : SumsKept E) : ∀ (n : Nat) (r : R) (fr : Fr) (st : St) e fr' st', exec E n r fr st = some (e, fr', st') → Kept st st' := by
  intro n
  induction n with
  | zero => intro r fr st e fr' st' h; simp [exec] at h
  | succ n ih =>
    intro r fr st e fr' st' h
    cases r with
    | skip => simp only [exec, Option.some.injEq, Prod.mk.injEq] at h; obtain ⟨_, _, rfl⟩ := h; exact Kept.refl _
    | exit id => simp only [exec, Option.some.injEq, Prod.mk.injEq] at h; obtain ⟨_, _, rfl⟩ := h; exact Kept.refl _
    | ret => simp only [exec, Option.some.injEq, Prod.mk.injEq] at h; obtain ⟨_, _, rfl⟩ := h; exact Kept.refl _
    | seq a b =>
      simp only [exec] at h
      split at h
      · rename_i h1
        exact (ih _ _ _ _ _ _ h1).trans (ih _ _ _ _ _ _ h)
      · exact ih _ _ _ _ _ _ h
    | cond c t el =>
      simp only [exec] at h
      split at h
      · split at h <;> exact ih _ _ _ _ _ _ h
      · cases h
    | block id b =>
      simp only [exec] at h
      split at h
      · rename_i h1
        split at h <;> (simp only [Option.some.injEq, Prod.mk.injEq] at h; obtain ⟨_, _, rfl⟩ := h; exact ih _ _ _ _ _ _ h1)
      · exact ih _ _ _ _ _ _ h
    | loop b =>
      simp only [exec] at h
      split at h
      · rename_i h1
        exact (ih _ _ _ _ _ _ h1).trans (ih _ _ _ _ _ _ h)
      · exact ih _ _ _ _ _ _ h
    | ops draw l =>
      cases draw with
      | true => simp only [exec] at h; exact runOpsD_kept (callKept_of hS (ih)) _ _ _ _ _ _ _ _ h
      | false => simp only [exec] at h; exact runOps_kept (callKept_of hS (ih)) _ _ _ _ _ _ h
    | rangeF g ps nt as bd =>
      simp only [exec] at h
      split at h
      · split at h
        · split at h
          · rename_i h1
            simp only [Option.map_eq_some_iff, Prod.mk.injEq] at h
            obtain ⟨st3, h3, _, _, rfl⟩ := h
            have hk := callKept_of hS ih _ _ _ _ _ h1
            have hlen : st.h.length + 1 = (looped nt fr ps as bd st).h.length := by simp [looped]
            rw [hlen] at hk
            exact ((KeptW.snoc st _ []).kept.trans (joined_kept hk)).trans (over_kept h3)
          · cases h
        · cases h
      · cases h

end Go.Ai
namespace Go.Ai
open Go.RowKit
set_option linter.unusedSimpArgs false
set_option linter.unusedVariables false
variable {P : Program} {ρ ρ' : RM} {w w' : World}

theorem mapM_range {α : Type} {f : Nat → Option α} {m : Nat} {l : List α} (h : (List.range m).mapM f = some l) : l.length = m ∧ ∀ k, k < m → ∃ r, l[k]? = some r ∧ f k = some r := by
  have key : ∀ (is : List Nat) (l : List α), is.mapM f = some l → l.length = is.length ∧ ∀ (k i : Nat), is[k]? = some i → ∃ r, l[k]? = some r ∧ f i = some r := by
    intro is
    induction is with
    | nil => intro l h; simp at h; subst h; exact ⟨rfl, fun k i h => by simp at h⟩
    | cons i is ih =>
      intro l h
      simp only [List.mapM_cons, bind, Option.bind_eq_some_iff, pure, Option.some.injEq] at h
      obtain ⟨r, hr, l', hl', rfl⟩ := h
      obtain ⟨h1, h2⟩ := ih l' hl'
      refine ⟨by simp [h1], fun k j hk => ?_⟩
      cases k with
      | zero => simp at hk; subst hk; exact ⟨r, rfl, hr⟩
      | succ k => exact h2 k j (by simpa using hk)
  obtain ⟨h1, h2⟩ := key _ _ h
  exact ⟨by simpa using h1, fun k hk => h2 k k (by simp [hk])⟩

/-- All that is fixed about a region. -/
structure Reg (P : Program) (nt : Nat) (ops : Array Oper) (l : List ROper) (call : CallF) (frs : Nat → Fr) (sts : Nat → St) (fps : Nat → FP) (vs : Nat → Value) : Prop where
  len : l.length = ops.size
  at_ : ∀ k, k < ops.size → ∃ r, l[k]? = some r ∧ coper P nt ops (Region.before ops) true k = some r
  slots : slotsOk ops (Region.before ops) = true
  edges : edgesOk ops = true
  tr : Trace call l 0 frs sts fps vs
  kept : CallKept call

abbrev anc (ops : Array Oper) (i j : Nat) : Prop := ((Region.before ops).getD i 0).testBit j = true

section
variable {nt : Nat} {ops : Array Oper} {l : List ROper} {call : CallF} {frs : Nat → Fr} {sts : Nat → St} {fps : Nat → FP} {vs : Nat → Value}

theorem Reg.of {fr fr' : Fr} {st st' : St} {e : Ex} (hl : cops P nt ops true = some l) (hr : runOpsD call 0 [] l fr st = some (e, fr', st')) (hk : CallKept call) :
    ∃ frs sts fps vs, Reg P nt ops l call frs sts fps vs ∧ frs 0 = fr ∧ sts 0 = st ∧ frs ops.size = fr' ∧ sts ops.size = st' := by
  unfold cops at hl
  simp only [if_true, bind, Option.bind_eq_some_iff] at hl
  obtain ⟨_, hg, hmap⟩ := hl
  have hs : slotsOk ops (Region.before ops) = true ∧ edgesOk ops = true := by
    unfold guardB at hg
    split at hg
    · rename_i h; simpa using h
    · cases hg
  obtain ⟨h1, h2⟩ := mapM_range hmap
  obtain ⟨frs, sts, fps, vs, htr, a, b, c, d, _⟩ := trace_of _ _ _ _ _ _ _ _ hr
  exact ⟨frs, sts, fps, vs, ⟨h1, h2, hs.1, hs.2, htr, hk⟩, a, b, h1 ▸ c, h1 ▸ d⟩

theorem Reg.step (G : Reg P nt ops l call frs sts fps vs) {k : Nat} (hk : k < ops.size) : ∃ r, l[k]? = some r ∧ coper P nt ops (Region.before ops) true k = some r ∧ TStep call r (frs k) (sts k) (vs k) (frs (k + 1)) (sts (k + 1)) (fps k) := by
  obtain ⟨r, h1, h2⟩ := G.at_ k hk
  exact ⟨r, h1, h2, G.tr.step k r h1⟩

theorem tstep_kept (hc : CallKept call) {r : ROper} {fr fr1 : Fr} {st st1 : St} {v : Value} {fp : FP} (h : TStep call r fr st v fr1 st1 fp) :
    Kept st st1 ∧ (∀ id, id < st.h.length → id ∉ fp.w → fp.bad = false → st1.h[id]? = st.h[id]?) ∧ (fp.al = (st1.h.length != st.h.length)) := by
  rcases h.act with ⟨_, _, rfl, rfl⟩ | ⟨_, hop⟩
  · exact ⟨Kept.refl _, fun _ _ _ _ => rfl, by simp⟩
  · refine ⟨opD_kept hc hop, ?_⟩
    unfold opD at hop
    split at hop
    · split at hop
      · cases hop
      split at hop
      · rename_i st2 h1
        simp only [Option.some.injEq, Prod.mk.injEq] at hop
        obtain ⟨_, rfl, rfl⟩ := hop
        have hk := doCall_kept hc h1
        refine ⟨fun id hid _ hb => hk.same id hid ?_, rfl⟩
        simp only [decide_eq_false_iff_not, Nat.not_lt] at hb
        exact Nat.lt_of_lt_of_le hid hb
      · cases hop
    · split at hop
      · rename_i h1
        simp only [Option.some.injEq, Prod.mk.injEq] at hop
        obtain ⟨_, rfl, rfl⟩ := hop
        exact ⟨fun id hid hn _ => (step_kept h1).same id hid hn, rfl⟩
      · cases hop

theorem Reg.keptAt (G : Reg P nt ops l call frs sts fps vs) {k : Nat} (hk : k < ops.size) : Kept (sts k) (sts (k + 1)) ∧ (∀ id, id < (sts k).h.length → id ∉ (fps k).w → (fps k).bad = false → (sts (k + 1)).h[id]? = (sts k).h[id]?) ∧ ((fps k).al = ((sts (k + 1)).h.length != (sts k).h.length)) := by
  obtain ⟨r, _, _, ht⟩ := G.step hk
  exact tstep_kept G.kept ht

theorem Reg.mono (G : Reg P nt ops l call frs sts fps vs) {i j : Nat} (hij : i ≤ j) (hj : j ≤ ops.size) : Kept (sts i) (sts j) := by
  induction j with
  | zero =>
    obtain rfl : i = 0 := by omega
    exact Kept.refl _
  | succ j ih =>
    by_cases h : i = j + 1
    · subst h; exact Kept.refl _
    · exact (ih (by omega) (by omega)).trans (G.keptAt (by omega)).1

/-- A block that nothing writes in between. -/
theorem Reg.stable (G : Reg P nt ops l call frs sts fps vs) {i j id : Nat} (hij : i ≤ j) (hj : j ≤ ops.size) (hid : id < (sts i).h.length) (hn : ∀ k, i ≤ k → k < j → id ∉ (fps k).w ∧ (fps k).bad = false) : hp (sts j).h id = hp (sts i).h id := by
  induction j with
  | zero =>
    obtain rfl : i = 0 := by omega
    rfl
  | succ j ih =>
    by_cases h : i = j + 1
    · subst h; rfl
    · have h1 := ih (by omega) (by omega) (fun k a b => hn k a (by omega))
      obtain ⟨q1, q2⟩ := hn j (by omega) (by omega)
      have hlt : id < (sts j).h.length := Nat.lt_of_lt_of_le hid (G.mono (by omega) (by omega)).len
      have := (G.keptAt (k := j) (by omega)).2.1 id hlt q1 q2
      rw [← h1]
      simp [hp, List.getD, this]

/-- A slot that nothing writes in between. -/
theorem Reg.slotStable (G : Reg P nt ops l call frs sts fps vs) {i j t : Nat} (hij : i ≤ j) (hj : j ≤ ops.size) (hn : ∀ k r, i ≤ k → k < j → l[k]? = some r → r.dst ≠ some t) : get (frs j) t = get (frs i) t := by
  induction j with
  | zero =>
    obtain rfl : i = 0 := by omega
    rfl
  | succ j ih =>
    by_cases h : i = j + 1
    · subst h; rfl
    · have h1 := ih (by omega) (by omega) (fun k r a b => hn k r a (by omega))
      obtain ⟨r, hr, _, ht⟩ := G.step (k := j) (by omega)
      have hd := hn j r (by omega) (by omega) hr
      rw [ht.put, ← h1]
      cases hdst : r.dst with
      | none => rfl
      | some d =>
        show get (put (frs j) d (vs j)) t = _
        rw [get_put, if_neg (fun e => hd (by rw [hdst, e]))]

theorem Reg.clash (G : Reg P nt ops l call frs sts fps vs) {j k : Nat} (hjk : j < k) (hk : k < ops.size) (hn : ¬ anc ops k j) : (fps j).clash (fps k) = false := by
  obtain ⟨r, hr, hco, _⟩ := G.step hk
  refine G.tr.clash j k r hjk hr ?_
  obtain ⟨_, _, _, _, _, _, ha⟩ := coper_spec hco
  rw [ha, Nat.zero_add]
  simpa using hn

/-- The slot that an operation names and another writes: the elder is an ancestor. -/
theorem Reg.slotAnc (G : Reg P nt ops l call frs sts fps vs) {i j t : Nat} {x y : Oper} (hij : i < j) (hx : ops[i]? = some x) (hy : ops[j]? = some y) (h : (x.dst = some t ∧ t ∈ Ai.slots ops y) ∨ (y.dst = some t ∧ t ∈ Ai.slots ops x)) : anc ops j i := by
  have hs := G.slots
  unfold slotsOk at hs
  have hj : j < ops.size := (Array.getElem?_eq_some_iff.1 hy).1
  have := List.all_eq_true.1 (List.all_eq_true.1 hs j (List.mem_range.2 hj)) i (List.mem_range.2 hij)
  rw [hx, hy] at this
  simp only [Bool.or_eq_true, Bool.and_eq_true] at this
  rcases this with h1 | ⟨h1, h2⟩
  · exact h1
  · exfalso
    rcases h with ⟨q1, q2⟩ | ⟨q1, q2⟩
    · rw [q1] at h1; simp at h1; exact h1 q2
    · rw [q1] at h2; simp at h2; exact h2 q2

end
end Go.Ai
namespace Go.Ai
open Go.RowKit
set_option linter.unusedSimpArgs false
set_option linter.unusedVariables false
variable {P : Program} {ρ ρ' : RM} {w w' : World} {D : List Deferred}

theorem clash_ww {x y : FP} {id : Nat} (hx : id ∈ x.w ∨ x.bad = true) (hy : id ∈ y.w ∨ y.bad = true) : x.clash y = true := by
  have tch : ∀ z : FP, (id ∈ z.w ∨ z.bad = true) → z.touches = true := fun z hz => by
    unfold FP.touches
    rcases hz with h | h
    · have : z.w.isEmpty = false := by cases hw : z.w with | nil => rw [hw] at h; cases h | cons _ _ => rfl
      simp [this]
    · simp [h]
  unfold FP.clash FP.hits
  rcases hx with h1 | h1
  · rcases hy with h2 | h2
    · have : (x.w.any fun k => y.r.contains k || y.w.contains k) = true := List.any_eq_true.2 ⟨id, h1, by simp [h2]⟩
      simp only [this, Bool.or_true, Bool.true_or]
    · simp [h2, tch x (.inl h1)]
  · simp [h1, tch y hy]
theorem clash_al {x y : FP} (hx : x.al = true) (hy : y.bad = true) : x.clash y = true := by
  unfold FP.clash FP.hits
  simp [hx, hy]
theorem clash_rw {x y : FP} {id : Nat} (hx : id ∈ x.r ∨ id ∈ x.w) (hy : id ∈ y.w ∨ y.bad = true) : x.clash y = true ∧ y.clash x = true := by
  have tx : x.touches = true := by
    unfold FP.touches
    rcases hx with h | h
    · have : x.r.isEmpty = false := by cases hw : x.r with | nil => rw [hw] at h; cases h | cons _ _ => rfl
      simp [this]
    · have : x.w.isEmpty = false := by cases hw : x.w with | nil => rw [hw] at h; cases h | cons _ _ => rfl
      simp [this]
  have : y.hits x = true := by
    unfold FP.hits
    rcases hy with h | h
    · have : (y.w.any fun k => x.r.contains k || x.w.contains k) = true := List.any_eq_true.2 ⟨id, h, by rcases hx with q | q <;> simp [q]⟩
      simp only [this, Bool.or_true]
    · simp [h, tx]
  unfold FP.clash
  simp [this]

section
variable {nt : Nat} {ops : Array Oper} {l : List ROper} {call : CallF} {frs : Nat → Fr} {sts : Nat → St} {fps : Nat → FP} {vs : Nat → Value}

structure Stage (D : List Deferred) (B nt : Nat) (ops : Array Oper) (l : List ROper) (frs : Nat → Fr) (sts : Nat → St) (fps : Nat → FP) (ρ0 : RM) (w0 : World) (S : Nat → Prop) (a : Act) (w : World) (ρ : RM) (H : Nat → O) : Prop where
  mem : WRel B ρ w H
  tsize : nt ≤ a.tmps.size
  defers : a.defers = D
  ran : ∀ sF : St, sF.fl ≤ (sts 0).fl → (sts 0).h.length ≤ sF.h.length → (∀ k, k < ops.size → S k → sF.fl ≤ (sts (k + 1)).fl ∧ (sts (k + 1)).h.length ≤ sF.h.length) → RanW B ρ0 ρ w0 w (sts 0) sF
  slot : ∀ t j, j ≤ ops.size → (∀ (k : Nat) r, l[k]? = some r → r.dst = some t → (S k ↔ k < j)) → VRel ρ (get (frs j) t) (a.tmps.getD t undef)
  blk : ∀ id lo j, j ≤ ops.size → ρ id = some lo → id < (sts j).h.length → (∀ k, k < ops.size → id < (sts k).h.length → (id ∈ (fps k).w ∨ (fps k).bad = true) → (S k ↔ k < j)) → H id = hp (sts j).h id
  dom : ∀ id lo, ρ id = some lo → (∃ lo0, ρ0 id = some lo0) ∨ ∃ k, k < ops.size ∧ S k ∧ (sts k).h.length ≤ id ∧ id < (sts (k + 1)).h.length
  wk : ∀ k, k < ops.size → S k → ∀ id ∈ (fps k).w, ∃ lo, ρ id = some lo

structure Did (B : Nat) (sts : Nat → St) (fps : Nat → FP) (vs : Nat → Value) (i : Nat) (ρ ρ' : RM) (w w' : World) (H H' : Nat → O) (v' : Value) : Prop where
  mem : WRel B ρ' w' H'
  ran : ∀ sX : St, sX.fl ≤ (sts (i + 1)).fl → (sts (i + 1)).h.length ≤ sX.h.length → RanW B ρ ρ' w w' sX sX
  val : VRel ρ' (vs i) v'
  dom : ∀ id lo, ρ' id = some lo → ρ id = some lo ∨ (ρ id = none ∧ (sts i).h.length ≤ id ∧ id < (sts (i + 1)).h.length)
  new : ∀ id lo, ρ' id = some lo → ρ id = none → H' id = hp (sts (i + 1)).h id
  writer : ∀ id lo, ρ id = some lo → id < (sts i).h.length → (id ∈ (fps i).w ∨ (fps i).bad = true) → H' id = hp (sts (i + 1)).h id
  other : ∀ id lo, ρ id = some lo → ¬ (id < (sts i).h.length ∧ (id ∈ (fps i).w ∨ (fps i).bad = true)) → H' id = H id
  wk : ∀ id ∈ (fps i).w, ∃ lo, ρ' id = some lo

theorem slots_dst {ops : Array Oper} {o : Oper} {t : Nat} (h : o.dst = some t) : t ∈ slots ops o := by
  unfold slots
  simp [h]

theorem Stage.next {B : Nat} {ρ0 : RM} {w0 : World} {S : Nat → Prop} {a : Act} {H H' : Nat → O} {v' : Value} {i : Nat} {r : ROper} (G : Reg P nt ops l call frs sts fps vs) (hst : Stage D B nt ops l frs sts fps ρ0 w0 S a w ρ H) (hi : i < ops.size) (hr : l[i]? = some r) (hSi : ¬ S i) (hdown : ∀ x y, S x → anc ops x y → S y)
    (hd : Did B sts fps vs i ρ ρ' w w' H H' v') : Stage D B nt ops l frs sts fps ρ0 w0 (fun k => S k ∨ k = i) (a.put r.dst v') w' ρ' H' := by
  have hle : ρ.le ρ' := (hd.ran (sts (i + 1)) (Nat.le_refl _) (Nat.le_refl _)).le
  obtain ⟨r', hr', hco, hts⟩ := G.step hi
  obtain rfl : r = r' := Option.some.inj (hr.symm.trans hr')
  obtain ⟨o, ho, _, hdst, hdlt, _, _⟩ := coper_spec hco
  -- a later one that has been taken is not held back by this one
  have hlater : ∀ k, i < k → k < ops.size → S k → anc ops k i → False := fun k _ _ hk ha => hSi (hdown k i hk ha)
  refine ⟨hd.mem, ?_, ?_, ?_, ?_, ?_, ?_, ?_⟩
  · cases r.dst with
    | none => exact hst.tsize
    | some d => simpa [Act.put] using hst.tsize
  · cases r.dst with
    | none => exact hst.defers
    | some d => exact hst.defers
  · intro sF h1 h2 h3
    obtain ⟨q1, q2⟩ := h3 i hi (.inr rfl)
    exact (hst.ran sF h1 h2 fun k hk hS => h3 k hk (.inl hS)).trans (hd.ran sF q1 q2)
  · intro t j hj hcons
    by_cases ht : r.dst = some t
    · have hij : i < j := (hcons i r hr ht).1 (.inr rfl)
      have hst1 : get (frs j) t = get (frs (i + 1)) t := G.slotStable (by omega) hj fun k rk h1 h2 hk hdk => by
        have hk' : k < ops.size := by omega
        rcases (hcons k rk hk hdk).2 h2 with hS | hS
        · obtain ⟨rk', hrk', hcok, _⟩ := G.step hk'
          obtain rfl : rk = rk' := Option.some.inj (hk.symm.trans hrk')
          obtain ⟨ok, hok, _, hdstk, _⟩ := coper_spec hcok
          exact hlater k (by omega) hk' hS (G.slotAnc (t := t) (by omega) ho hok (.inr ⟨by rw [← hdstk]; exact hdk, slots_dst (by rw [← hdst]; exact ht)⟩))
        · omega
      rw [hst1, hts.put, ht]
      show VRel ρ' (get (put (frs i) t (vs i)) t) ((a.tmps.setIfInBounds t v').getD t undef)
      rw [get_put, if_pos rfl]
      have hlt : t < a.tmps.size := Nat.lt_of_lt_of_le (hdlt t (by rw [← hdst]; exact ht)) hst.tsize
      simpa [hlt] using hd.val
    · have h1 := hst.slot t j hj fun k rk hk hdk => by
        have hki : k ≠ i := fun e => by subst e; rw [hr] at hk; obtain rfl := Option.some.inj hk; exact ht hdk
        have := hcons k rk hk hdk
        constructor
        · exact fun hS => this.1 (.inl hS)
        · exact fun hkj => (this.2 hkj).resolve_right hki
      have h2 : (a.put r.dst v').tmps.getD t undef = a.tmps.getD t undef := by
        cases hdd : r.dst with
        | none => rfl
        | some d =>
          have hne : d ≠ t := fun e => ht (by rw [hdd, e])
          simp only [Act.put, Array.getD_eq_getD_getElem?]
          rw [Array.getElem?_setIfInBounds_ne hne]
      rw [h2]
      exact h1.mono hle
  · intro id lo j hj hid hlt hcons
    rcases hd.dom id lo hid with hold | ⟨hnone, hn1, hn2⟩
    · by_cases hwr : id < (sts i).h.length ∧ (id ∈ (fps i).w ∨ (fps i).bad = true)
      · rw [hd.writer id lo hold hwr.1 hwr.2]
        have hij : i < j := (hcons i hi hwr.1 hwr.2).1 (.inr rfl)
        have hidlt : id < (sts (i + 1)).h.length := Nat.lt_of_lt_of_le hwr.1 (G.keptAt hi).1.len
        refine (G.stable (by omega) hj hidlt fun k h1 h2 => ?_).symm
        have hk' : k < ops.size := by omega
        have hnot : ¬ (id ∈ (fps k).w ∨ (fps k).bad = true) := fun hk => by
          have hlk : id < (sts k).h.length := Nat.lt_of_lt_of_le hidlt (G.mono h1 (by omega)).len
          rcases (hcons k hk' hlk hk).2 h2 with hS | hS
          · refine hlater k (by omega) hk' hS ?_
            refine Classical.byContradiction fun hna => ?_
            have := G.clash (by omega) hk' hna
            rw [clash_ww hwr.2 hk] at this
            cases this
          · omega
        simp only [not_or, Bool.not_eq_true] at hnot
        exact hnot
      · rw [hd.other id lo hold hwr]
        refine hst.blk id lo j hj hold hlt fun k hk hlk hw => ?_
        have hki : k ≠ i := fun e => by subst e; exact hwr ⟨hlk, hw⟩
        have := hcons k hk hlk hw
        constructor
        · exact fun hS => this.1 (.inl hS)
        · exact fun hkj => (this.2 hkj).resolve_right hki
    · rw [hd.new id lo hid hnone]
      have hij : i < j := by
        refine Classical.byContradiction fun hn => ?_
        have := (G.mono (i := j) (j := i) (by omega) (by omega)).len
        omega
      refine (G.stable (by omega) hj hn2 fun k h1 h2 => ?_).symm
      have hk' : k < ops.size := by omega
      have hnot : ¬ (id ∈ (fps k).w ∨ (fps k).bad = true) := fun hk => by
        have hlk : id < (sts k).h.length := Nat.lt_of_lt_of_le hn2 (G.mono h1 (by omega)).len
        rcases (hcons k hk' hlk hk).2 h2 with hS | hS
        · rcases hk with hk | hk
          · obtain ⟨lo', hlo'⟩ := hst.wk k hk' hS id hk
            rw [hnone] at hlo'; cases hlo'
          · refine hlater k (by omega) hk' hS ?_
            refine Classical.byContradiction fun hna => ?_
            have := G.clash (by omega) hk' hna
            have hal : (fps i).al = true := by rw [(G.keptAt hi).2.2]; simp; omega
            rw [clash_al hal hk] at this
            cases this
        · omega
      simp only [not_or, Bool.not_eq_true] at hnot
      exact hnot
  · intro id lo hid
    rcases hd.dom id lo hid with hold | ⟨_, hn1, hn2⟩
    · rcases hst.dom id lo hold with h | ⟨k, h1, h2, h3⟩
      · exact .inl h
      · exact .inr ⟨k, h1, .inl h2, h3⟩
    · exact .inr ⟨i, hi, .inr rfl, hn1, hn2⟩
  · intro k hk hS id hid
    rcases hS with hS | rfl
    · obtain ⟨lo, hlo⟩ := hst.wk k hk hS id hid
      exact ⟨lo, hle id lo hlo⟩
    · exact hd.wk id hid

end
end Go.Ai
namespace Go.Ai
open Go.RowKit
set_option linter.unusedSimpArgs false
set_option linter.unusedVariables false
variable {P : Program} {ρ ρ' : RM} {w w' : World} {D : List Deferred}

theorem WRel.congr {B : Nat} {H H' : Nat → O} (h : WRel B ρ w H) (he : ∀ id lo, ρ id = some lo → H id = H' id) : WRel B ρ w H' :=
  ⟨h.base, fun id l hl => he id l hl ▸ h.rel id l hl, fun id l hl hr => h.ro id l hl (by rw [he id l hl]; exact hr), fun id l hl hr => h.own id l hl (by rw [he id l hl]; exact hr),
   fun i j li lj hij hi hj hb hB => (he i li hi).symm.trans (h.sep i j li lj hij hi hj hb hB)⟩

theorem fpOf_bad {r : ROp} {e : Operand → Value} {st : St} : (fpOf r e st).bad = false ∧ (fpOf r e st).all = false := by
  cases r <;> exact ⟨rfl, rfl⟩

theorem iterMap_sub {h : List O} {l : List Nat} {b : Nat} (hb : b ∈ l) : b ∈ iterMap h l := by
  unfold iterMap
  split
  · split
    · simp at hb; simp [hb]
    · exact hb
  · exact hb

theorem fp_cover {r : ROp} {e : Operand → Value} {st : St} (hc : ∀ f a, r ≠ .call f a) : ∀ x ∈ fpOps r, ∀ b ∈ blk (e x), b ∈ (fpOf r e st).r ∨ b ∈ (fpOf r e st).w := by
  intro x hx b hb
  cases r <;> simp [fpOps] at hx
  case call f a => exact absurd rfl (hc f a)
  case next it => subst hx; exact .inr hb
  case entry it => subst hx; exact .inl (iterMap_sub hb)
  all_goals first
    | (subst hx; first | exact .inl hb | exact .inr hb)
    | (rcases hx with rfl | rfl <;> first | exact .inl hb | exact .inr hb)

section
variable {nt : Nat} {ops : Array Oper} {l : List ROper} {call : CallF} {frs : Nat → Fr} {sts : Nat → St} {fps : Nat → FP} {vs : Nat → Value}
variable {B : Nat} {ρ0 : RM} {w0 : World} {S : Nat → Prop} {a : Act} {H : Nat → O} {i : Nat}

/-- What is known when an operation is taken. -/
structure Taken (ops : Array Oper) (S : Nat → Prop) (i : Nat) : Prop where
  lt : i < ops.size
  no : ¬ S i
  up : ∀ j, anc ops i j → S j
  down : ∀ x y, S x → anc ops x y → S y

theorem Reg.slotCut (G : Reg P nt ops l call frs sts fps vs) (T : Taken ops S i) {o : Oper} {t : Nat} (ho : ops[i]? = some o) (ht : t ∈ Ai.slots ops o) : ∀ (k : Nat) r, l[k]? = some r → r.dst = some t → (S k ↔ k < i) := by
  intro k r hk hd
  have hklt : k < ops.size := by rw [← G.len]; exact (List.getElem?_eq_some_iff.1 hk).1
  obtain ⟨r', hr', hco, _⟩ := G.step hklt
  obtain rfl : r = r' := Option.some.inj (hk.symm.trans hr')
  obtain ⟨ok, hok, _, hdst, _⟩ := coper_spec hco
  rw [hdst] at hd
  constructor
  · intro hS
    refine Classical.byContradiction fun hn => ?_
    by_cases hki : k = i
    · exact T.no (hki ▸ hS)
    · exact T.no (T.down k i hS (G.slotAnc (t := t) (by omega) ho hok (.inr ⟨hd, ht⟩)))
  · intro hlt
    exact T.up k (G.slotAnc (t := t) hlt hok ho (.inl ⟨hd, ht⟩))

theorem Reg.blkCut (G : Reg P nt ops l call frs sts fps vs) (T : Taken ops S i) {b : Nat} (hb : b ∈ (fps i).r ∨ b ∈ (fps i).w) : ∀ k, k < ops.size → b < (sts k).h.length → (b ∈ (fps k).w ∨ (fps k).bad = true) → (S k ↔ k < i) := by
  intro k hk _ hw
  constructor
  · intro hS
    refine Classical.byContradiction fun hn => ?_
    by_cases hki : k = i
    · exact T.no (hki ▸ hS)
    · refine T.no (T.down k i hS (Classical.byContradiction fun hna => ?_))
      have := G.clash (by omega) hk hna
      rw [(clash_rw hb hw).1] at this
      cases this
  · intro hlt
    refine T.up k (Classical.byContradiction fun hna => ?_)
    have := G.clash hlt T.lt hna
    rw [(clash_rw hb hw).2] at this
    cases this

theorem Reg.callCut (G : Reg P nt ops l call frs sts fps vs) (T : Taken ops S i) (hall : (fps i).all = true) {k : Nat} (hk : k < ops.size) (hw : (∃ b, b ∈ (fps k).w) ∨ (fps k).bad = true ∨ ((fps k).al = true ∧ (fps i).bad = true)) (hki : k ≠ i) : (S k ↔ k < i) := by
  have hcl : (fps i).clash (fps k) = true ∧ (fps k).clash (fps i) = true := by
    have ht : (fps i).touches = true := by simp [FP.touches, hall]
    have : (fps i).hits (fps k) = true ∨ (fps k).hits (fps i) = true := by
      rcases hw with ⟨b, hb⟩ | hb | ⟨hb, hb2⟩
      · left
        have : (fps k).w.isEmpty = false := by cases hw : (fps k).w with | nil => rw [hw] at hb; cases hb | cons _ _ => rfl
        simp [FP.hits, hall, this]
      · right; simp [FP.hits, hb, ht]
      · left; simp [FP.hits, hb2, hb]
    unfold FP.clash
    rcases this with h | h <;> simp [h]
  constructor
  · intro hS
    refine Classical.byContradiction fun hn => ?_
    refine T.no (T.down k i hS (Classical.byContradiction fun hna => ?_))
    have := G.clash (by omega) hk hna
    rw [hcl.1] at this
    cases this
  · intro hlt
    refine T.up k (Classical.byContradiction fun hna => ?_)
    have := G.clash hlt T.lt hna
    rw [hcl.2] at this
    cases this

/-- What an operation would make is not known yet. -/
theorem Stage.fresh (G : Reg P nt ops l call frs sts fps vs) (T : Taken ops S i) (hf0 : Full ρ0 (sts 0).h) (hst : Stage D B nt ops l frs sts fps ρ0 w0 S a w ρ H) {id : Nat} (h1 : (sts i).h.length ≤ id) (h2 : id < (sts (i + 1)).h.length) : ρ id = none := by
  have hi := T.lt
  cases hx : ρ id with
  | none => rfl
  | some lo =>
    exfalso
    rcases hst.dom id lo hx with ⟨lo0, h0⟩ | ⟨k, hk, hS, h3, h4⟩
    · have := hf0 id lo0 h0
      have := (G.mono (i := 0) (j := i) (by omega) (by omega)).len
      omega
    · have hki : k ≠ i := fun e => T.no (e ▸ hS)
      rcases Nat.lt_or_gt_of_ne hki with h | h
      · have := (G.mono (i := k + 1) (j := i) (by omega) (by omega)).len
        omega
      · have := (G.mono (i := i + 1) (j := k) (by omega) (by omega)).len
        omega

/-- The operands. -/
theorem Stage.given (G : Reg P nt ops l call frs sts fps vs) (T : Taken ops S i) (hst : Stage D B nt ops l frs sts fps ρ0 w0 S a w ρ H) {o : Oper} {r : ROp} (ho : ops[i]? = some o) (hc : cop P o = some r) : Given ρ o.op (ev (frs i)) a.eval := by
  refine ⟨fun x hx => ?_, fun _ => rfl, fun _ => rfl⟩
  have hok := cop_okO hc x hx
  cases x with
  | tmp t =>
    have ht : t ∈ slots ops o := by
      unfold slots
      refine List.mem_append.2 (.inl (List.mem_append.2 (.inr (List.mem_filterMap.2 ⟨.tmp t, by simpa using hx, rfl⟩))))
    exact hst.slot t i (Nat.le_of_lt T.lt) (G.slotCut T ho ht)
  | const v => exact plain_rel hok
  | global g => simp [okO] at hok
  | func f => exact .func (xs := []) (ys := []) rfl fun i a b h => by simp at h

end
end Go.Ai
namespace Go.Ai
open Go.RowKit
set_option linter.unusedSimpArgs false
set_option linter.unusedVariables false
variable {P : Program} {ρ ρ' : RM} {w w' : World} {D : List Deferred}
section
variable {nt : Nat} {ops : Array Oper} {l : List ROper} {call : CallF} {frs : Nat → Fr} {sts : Nat → St} {fps : Nat → FP} {vs : Nat → Value}
variable {B : Nat} {ρ0 : RM} {w0 : World} {S : Nat → Prop} {a : Act} {H : Nat → O} {i : Nat}

theorem did_none (hst : WRel B ρ w H) (h1 : sts (i + 1) = sts i) (h2 : fps i = {}) (h3 : vs i = undef) : Did B sts fps vs i ρ ρ w w H H undef :=
  ⟨hst, fun sX _ _ => (Ran.refl B ρ w sX).toRanW, by rw [h3]; exact VRel.undef_ ρ, fun id lo h => .inl h, fun id lo h k => by (rw [h] at k; cases k),
   fun id lo _ _ hw => by (rw [h2] at hw; rcases hw with hw | hw; exact absurd hw (by simp); cases hw), fun id lo _ _ => rfl, fun id hid => by (rw [h2] at hid; exact absurd hid (by simp))⟩

theorem did_step (G : Reg P nt ops l call frs sts fps vs) (T : Taken ops S i) (hf0 : Full ρ0 (sts 0).h) (hst : Stage D B nt ops l frs sts fps ρ0 w0 S a w ρ H) {o : Oper} {r : ROp} (ho : ops[i]? = some o) (hc : cop P o = some r) (hnc : ∀ f x, r ≠ .call f x)
    (hs : step r (ev (frs i)) (sts i) = some (.val (vs i), sts (i + 1))) (hr : (fps i).r = (fpOf r (ev (frs i)) (sts i)).r) (hw : (fps i).w = (fpOf r (ev (frs i)) (sts i)).w) (hb : (fps i).bad = false) :
    ∃ ρ' v' w' H', ((execOp a.eval o).run P w = .ok (.value v') w' ∨ ((execOp a.eval o).run P w = .ok .skip w' ∧ v' = undef)) ∧ Did B sts fps vs i ρ ρ' w w' H H' v' := by
  have hg := hst.given G T ho hc
  have hblk : ∀ b, (b ∈ (fps i).r ∨ b ∈ (fps i).w) → ∀ L, ρ b = some L → b < (sts i).h.length → H b = hp (sts i).h b := fun b hb L hL hlt => hst.blk b L i (Nat.le_of_lt T.lt) hL hlt (G.blkCut T hb)
  have hrel : ∀ b, (b ∈ (fps i).r ∨ b ∈ (fps i).w) → ∀ L, ρ b = some L → CRel ρ w L (hp (sts i).h b) := fun b hb L hL => by
    by_cases hlt : b < (sts i).h.length
    · rw [← hblk b hb L hL hlt]; exact hst.mem.rel b L hL
    · rw [hp_none (Nat.not_lt.1 hlt)]; trivial
  have hknown : ∀ b ∈ (fpOf r (ev (frs i)) (sts i)).r ++ (fpOf r (ev (frs i)) (sts i)).w, ∃ L, ρ b = some L :=
    fp_known (w := w) (fun x hx => hg.rel x (cop_fpOps hc x hx)) fun b hb L hL => hrel b (by
      obtain ⟨x, hx, hbx⟩ := List.mem_flatMap.1 hb
      rw [hr, hw]
      exact fp_cover hnc x hx b hbx) L hL
  have hsee : Sees ρ w (sts i).h ((fpOf r (ev (frs i)) (sts i)).r ++ (fpOf r (ev (frs i)) (sts i)).w) := hp_sees hknown fun b hb L hL => hrel b (by rw [hr, hw]; exact List.mem_append.1 hb) L hL
  have hfresh : ∀ id, (sts i).h.length ≤ id → id < (sts (i + 1)).h.length → ρ id = none := fun id h1 h2 => hst.fresh G T hf0 h1 h2
  obtain ⟨⟨ws, ⟨ρ', v', w', hrun, heff, hv⟩, hws⟩, hfl, hlen, hown⟩ := step_ok (w := w) hc hg (fun hne => hfresh _ (Nat.le_refl _) (by have := (G.keptAt T.lt).1.len; omega)) hsee hs
  have hws' : ∀ k ∈ ws, ∃ o, (sts i).h[k]? = some o ∧ o.own = true := fun k hk => (hws k hk).2.2
  have hwlt : ∀ k ∈ ws, k < (sts i).h.length := fun k hk => by obtain ⟨o, h1, _⟩ := hws' k hk; exact (List.getElem?_eq_some_iff.1 h1).1
  have hwk : ∀ k ∈ ws, ∃ l, ρ k = some l := fun k hk => hknown k (List.mem_append.2 (.inr (hws k hk).1))
  have hHk : ∀ k ∈ ws, H k = hp (sts i).h k := fun k hk => by
    obtain ⟨L, hL⟩ := hwk k hk
    exact hblk k (.inr (by rw [hw]; exact (hws k hk).1)) L hL (hwlt k hk)
  have hmem := hst.mem.step heff hws' hHk hwk hlen hown (step_ro hs)
  have hran := Ran.of_step hst.mem heff (fun k hk => by
    obtain ⟨o, h1, h2⟩ := hws' k hk
    rw [hHk k hk, hp_some h1]; exact h2) (fun k hk => (hws k hk).2.1) hfl
  refine ⟨ρ', v', w', _, hrun, hmem, fun sX h1 h2 => hran.toRanW.weaken h1 h2, hv, ?_, ?_, ?_, ?_, ?_⟩
  · intro id lo hid
    cases hx : ρ id with
    | some lo' =>
      left
      rw [← hx]
      obtain rfl : lo = lo' := Option.some.inj (hid.symm.trans (heff.le id lo' hx))
      rw [hx]
    | none =>
      right
      rcases heff.dom id lo hid with h | h
      · rw [hx] at h; cases h
      · exact ⟨rfl, h⟩
  · intro id lo hid hn
    rcases heff.dom id lo hid with h | h
    · rw [hn] at h; cases h
    · unfold touched; rw [if_pos (.inr h)]
  · intro id lo hid hlt hwr
    rcases hwr with hwr | hwr
    · unfold touched
      split
      · rfl
      · rename_i hnt
        have hnw : id ∉ ws := fun h => hnt (.inl h)
        rw [hblk id (.inr hwr) lo hid hlt]
        have := heff.same id hlt hnw
        simp [hp, List.getD, this]
    · rw [hb] at hwr; cases hwr
  · intro id lo hid hno
    unfold touched
    split
    · rename_i ht
      exfalso
      rcases ht with ht | ht
      · exact hno ⟨hwlt id ht, .inl (by rw [hw]; exact (hws id ht).1)⟩
      · rw [hfresh id ht.1 ht.2] at hid; cases hid
    · rfl
  · intro id hid
    rw [hw] at hid
    obtain ⟨L, hL⟩ := hknown id (List.mem_append.2 (.inr hid))
    exact ⟨L, heff.le id L hL⟩

/-- Before a call the memory is that of the text's order. -/
theorem Stage.full (G : Reg P nt ops l call frs sts fps vs) (T : Taken ops S i) (hf0 : Full ρ0 (sts 0).h) (hst : Stage D B nt ops l frs sts fps ρ0 w0 S a w ρ H) (hall : (fps i).all = true) (hbad : (fps i).bad = true) :
    (∀ id lo, ρ id = some lo → id < (sts i).h.length ∧ H id = hp (sts i).h id) ∧ SRel B ρ w (sts i) := by
  have hi := T.lt
  have hfull : Full ρ (sts i).h := fun id lo hid => by
    rcases hst.dom id lo hid with ⟨lo0, h0⟩ | ⟨k, hk, hS, h3, h4⟩
    · exact Nat.lt_of_lt_of_le (hf0 id lo0 h0) (G.mono (i := 0) (j := i) (by omega) (by omega)).len
    · have hki : k ≠ i := fun e => T.no (e ▸ hS)
      have hal : (fps k).al = true := by rw [(G.keptAt hk).2.2]; simp; omega
      have hlt := (G.callCut T hall hk (.inr (.inr ⟨hal, hbad⟩)) hki).1 hS
      exact Nat.lt_of_lt_of_le h4 (G.mono (i := k + 1) (j := i) (by omega) (by omega)).len
  have hH : ∀ id lo, ρ id = some lo → H id = hp (sts i).h id := fun id lo hid => by
    refine hst.blk id lo i (Nat.le_of_lt hi) hid (hfull id lo hid) fun k hk _ hw => ?_
    by_cases hki : k = i
    · subst hki
      exact ⟨fun h => absurd h T.no, fun h => absurd h (Nat.lt_irrefl _)⟩
    · refine G.callCut T hall hk ?_ hki
      rcases hw with hw | hw
      · exact .inl ⟨id, hw⟩
      · exact .inr (.inl hw)
  exact ⟨fun id lo hid => ⟨hfull id lo hid, hH id lo hid⟩, ⟨hst.mem.congr hH, hfull⟩⟩

end
end Go.Ai
namespace Go.Ai
open Go.RowKit
set_option linter.unusedSimpArgs false
set_option linter.unusedVariables false
variable {P : Program} {ρ ρ' : RM} {w w' : World} {D : List Deferred}

/-- What two relations know: by the first one. -/
def meet (ρ ρg : RM) : RM := fun id => if (ρg id).isSome then ρ id else none
theorem meet_le (ρ ρg : RM) : (meet ρ ρg).le ρ := fun id l h => by
  unfold meet at h
  split at h
  · exact h
  · cases h
theorem meet_some {ρg : RM} {id : Nat} {l lg : Loc} (h : ρ id = some l) (hg : ρg id = some lg) : meet ρ ρg id = some l := by simp [meet, hg, h]
theorem meet_dom {ρg : RM} {id : Nat} {l : Loc} (h : meet ρ ρg id = some l) : ρ id = some l ∧ ∃ lg, ρg id = some lg := by
  unfold meet at h
  split at h
  · rename_i hs; exact ⟨h, Option.isSome_iff_exists.1 hs⟩
  · cases h

theorem VRel.meet {ρg : RM} {v v' : Value} (h : VRel ρ v v') : ∀ v'', VRel ρg v v'' → VRel (Ai.meet ρ ρg) v v' := by
  induction h with
  | flat h1 h2 => intro _ _; exact .flat h1 h2
  | empty a => intro _ _; exact .empty a
  | ptr h => intro v'' h2; obtain ⟨l, hl, _⟩ := h2.inv_ptr; exact .ptr (meet_some h hl)
  | slice h a b c d => intro v'' h2; obtain ⟨l, _, _, hl, _⟩ := h2.inv_slice; exact .slice (meet_some h hl) a b c d
  | map h => intro v'' h2; obtain ⟨l, hl, _⟩ := h2.inv_map; exact .map (meet_some h hl)
  | func hl _ ih =>
    intro v'' h2
    obtain ⟨_, cap, _, hc⟩ := h2.inv_func
    refine .func hl fun i a b ha hb => ?_
    obtain ⟨b2, _, hb2⟩ := hc.get (i := i) (a := a) (by simpa using ha)
    exact ih i a b ha hb b2 hb2
  | yld h => intro v'' h2; obtain ⟨_, _, l, hl, _⟩ := h2.inv_yld; exact .yld (meet_some h hl)
  | iface _ ih => intro v'' h2; obtain ⟨y, _, hy⟩ := h2.inv_iface; exact .iface (ih y hy)
  | agg hl _ ih =>
    intro v'' h2
    obtain ⟨cs, _, hc⟩ := h2.inv_agg
    refine .agg hl fun i a b ha hb => ?_
    obtain ⟨b2, _, hb2⟩ := hc.get (i := i) (a := a) (by simpa using ha)
    exact ih i a b ha hb b2 hb2
  | tuple hl _ ih =>
    intro v'' h2
    obtain ⟨cs, _, hc⟩ := h2.inv_tuple
    refine .tuple hl fun i a b ha hb => ?_
    obtain ⟨b2, _, hb2⟩ := hc.get (i := i) (a := a) (by simpa using ha)
    exact ih i a b ha hb b2 hb2
theorem LRel.meet {ρg : RM} {xs ys zs : List Value} (h : LRel ρ xs ys) (k : LRel ρg xs zs) : LRel (Ai.meet ρ ρg) xs ys :=
  ⟨h.1, fun i a b ha hb => by obtain ⟨c, hc, hr⟩ := k.get ha; exact (h.2 i a b ha hb).meet c hr⟩
theorem CRel.meet {ρg : RM} {wg : World} {L Lg : Loc} {o : O} (h : CRel ρ w L o) (k : CRel ρg wg Lg o) : CRel (Ai.meet ρ ρg) w L o := by
  cases o with
  | cells c e own =>
    obtain ⟨cs, e', fz, h1, h2, h3⟩ := h
    obtain ⟨cs2, e2, fz2, k1, k2, k3⟩ := k
    exact ⟨cs, e', fz, h1, fun i v hi => let ⟨v', q1, q2⟩ := h2 i v hi; let ⟨v2, _, q4⟩ := k2 i v hi; ⟨v', q1, q2.meet v2 q4⟩, h3⟩
  | map es clock =>
    obtain ⟨es', h1, h3, h4, h5⟩ := h
    obtain ⟨es2, k1, k3, k4, k5⟩ := k
    refine ⟨es', h1, h3, fun i a b ha hb => ?_, h5⟩
    have hi : i < es2.size := by rw [← k3]; exact (List.getElem?_eq_some_iff.1 ha).1
    obtain ⟨x, y, z⟩ := h4 i a b ha hb
    exact ⟨x, y.meet _ (k4 i a es2[i] ha (by simp [hi])).2.1, z⟩
  | iter m since seen stepped =>
    obtain ⟨h0, m', h1, h3⟩ := h
    obtain ⟨_, m2, _, k3⟩ := k
    refine ⟨h0, m', h1, ?_⟩
    cases m with
    | none => exact h3
    | some id =>
      obtain ⟨b, h4, h5⟩ := h3
      obtain ⟨b2, k4, _⟩ := k3
      exact ⟨b, meet_some h4 k4, h5⟩
  | loop busy nt fr ps as bd =>
    obtain ⟨r, h1, h2, h3, h4, h5, h6, h7, h8, h9⟩ := h
    obtain ⟨r', _, _, _, _, _, _, _, _, k9⟩ := k
    exact ⟨r, h1, h2, h3, h4, h5, h6, h7, h8, fun i => (h9 i).meet _ (k9 i)⟩
  | dead => trivial

section
variable {nt : Nat} {ops : Array Oper} {l : List ROper} {call : CallF} {frs : Nat → Fr} {sts : Nat → St} {fps : Nat → FP} {vs : Nat → Value}
variable {B : Nat} {ρ0 : RM} {w0 : World} {S : Nat → Prop} {a : Act} {H : Nat → O} {i : Nat}

/-- The order of the text can be run. -/
theorem Reg.ghost {F : Fence} (hF : Open F) (hcall : CallsOkD F P B call) (G : Reg P nt ops l call frs sts fps vs) {a0 : Act} (h0 : FRel D ρ0 nt (frs 0) a0) (hS0 : SRel B ρ0 w0 (sts 0)) :
    ∀ j, j ≤ ops.size → ∃ ρg wg ag, FRel D ρg nt (frs j) ag ∧ SRel B ρg wg (sts j) := by
  intro j
  induction j with
  | zero => intro _; exact ⟨ρ0, w0, a0, h0, hS0⟩
  | succ j ih =>
    intro hj
    obtain ⟨ρg, wg, ag, hf, hS⟩ := ih (by omega)
    obtain ⟨r, hr, hco, hts⟩ := G.step (k := j) (by omega)
    obtain ⟨o, ho, hc, hdst, hdlt, _, _⟩ := coper_spec hco
    have next : ∀ (v' : Value) (st1 : St) (ρ1 : RM) (w1 : World), sts (j + 1) = st1 → VRel ρ1 (vs j) v' → SRel B ρ1 w1 st1 → ρg.le ρ1 → ∃ ρg wg ag, FRel D ρg nt (frs (j + 1)) ag ∧ SRel B ρg wg (sts (j + 1)) := by
      intro v' st1 ρ1 w1 he hv hS1 hle
      refine ⟨ρ1, w1, ag.put r.dst v', ?_, he ▸ hS1⟩
      rw [hts.put, hdst]
      exact (hf.mono hle).putD hdlt hv
    rcases hts.act with ⟨_, hv, hs, _⟩ | ⟨_, hop⟩
    · exact next undef (sts j) ρg wg hs (by rw [hv]; exact VRel.undef_ _) hS (RM.le_refl _)
    · have hgiven := given_of hc hf
      by_cases hcl : ∃ f x, r.op = .call f x
      · obtain ⟨f, x, hcl⟩ := hcl
        rw [hcl] at hop hc
        unfold opD at hop
        split at hop
        · rename_i f' x' heq
          obtain ⟨rfl, rfl⟩ := ROp.call.inj heq
          split at hop
          · cases hop
          rename_i hy
          split at hop
          · rename_i v2 st2 hdc
            simp only [Option.some.injEq, Prod.mk.injEq] at hop
            obtain ⟨rfl, hst2, hfp⟩ := hop
            unfold doCall at hdc
            split at hdc
            · rename_i g args ht
              obtain ⟨hcb, hok⟩ := hcall _ _ _ _ _ hdc (target_lt ht hy)
              obtain ⟨vs', hvs, hrun⟩ := run_callOp (w := wg) hc hgiven ht (target_lt ht hy) hcb
              obtain ⟨_, hcs⟩ := hok rfl 0 ρg wg vs' hvs (hS.fl _)
              obtain ⟨e, w1, fr, hpost, _⟩ := hcs [] (fun d hd => by rw [hF.depth] at hd; cases hd)
              cases e with
              | returned v' =>
                obtain ⟨v, st1, ρ1, ⟨h1, rfl⟩, h2, h3, h4⟩ := hpost
                obtain rfl := Out.ret.inj h1
                exact next v' _ ρ1 w1 hst2.symm h2 ⟨h3.mem, h3.full⟩ h4.le
              | panicked chain => obtain ⟨v, v', st1, ρ1, ⟨h1, _⟩, _⟩ := hpost; cases h1
              | outgrown => exact hpost.elim
            · cases hdc
          · cases hop
        · rename_i hne
          exact absurd rfl (hne f x)
      · have hnc : ∀ f x, r.op ≠ .call f x := fun f x e => hcl ⟨f, x, e⟩
        have hs : Ai.step r.op (ev (frs j)) (sts j) = some (.val (vs j), sts (j + 1)) := by
          unfold opD at hop
          split at hop
          · rename_i f x heq; exact absurd heq (hnc f x)
          · split at hop
            · rename_i v2 st2 h1
              simp only [Option.some.injEq, Prod.mk.injEq] at hop
              obtain ⟨rfl, rfl, h2⟩ := hop
              exact h1
            · cases hop
        have hk : ∀ b ∈ (fpOf r.op (ev (frs j)) (sts j)).w, ∃ L, ρg b = some L := fun b hb =>
          fp_known (e' := ag.eval) (w := wg) (fun x hx => ev_rel hf (cop_okO hc x (cop_fpOps hc x hx))) (fun b _ L hL => hS.mem.rel b L hL) b (List.mem_append.2 (.inr hb))
        obtain ⟨ρ1, v', w1, hrun, hv, hS1, hran⟩ := hS.step (step_ok hc hgiven (fun _ => hS.full.dom) (sees_of hc hf hS) hs) hk (step_ro hs)
        exact next v' _ ρ1 w1 rfl hv hS1 hran.le

theorem Stage.agree (G : Reg P nt ops l call frs sts fps vs) (T : Taken ops S i) (hst : Stage D B nt ops l frs sts fps ρ0 w0 S a w ρ H) (hall : (fps i).all = true) :
    ∀ id lo, ρ id = some lo → id < (sts i).h.length → H id = hp (sts i).h id := fun id lo hid hlt => by
  refine hst.blk id lo i (Nat.le_of_lt T.lt) hid hlt fun k hk _ hw => ?_
  by_cases hki : k = i
  · subst hki
    exact ⟨fun h => absurd h T.no, fun h => absurd h (Nat.lt_irrefl _)⟩
  · refine G.callCut T hall hk ?_ hki
    rcases hw with hw | hw
    · exact .inl ⟨id, hw⟩
    · exact .inr (.inl hw)

theorem Stage.meet (G : Reg P nt ops l call frs sts fps vs) (T : Taken ops S i) (hst : Stage D B nt ops l frs sts fps ρ0 w0 S a w ρ H) (hall : (fps i).all = true) {ρg : RM} {wg : World} (hg : SRel B ρg wg (sts i)) :
    SRel B (Ai.meet ρ ρg) w (sts i) := by
  have hd : ∀ id l, Ai.meet ρ ρg id = some l → ρ id = some l ∧ id < (sts i).h.length ∧ H id = hp (sts i).h id := fun id l h => by
    obtain ⟨h1, lg, h2⟩ := meet_dom h
    have := hg.full id lg h2
    exact ⟨h1, this, hst.agree G T hall id l h1 this⟩
  refine ⟨⟨hst.mem.base, fun id l h => ?_, fun id l h hr => ?_, fun id l h hr => ?_, fun x y lx ly hxy hx hy hb hB => ?_⟩, fun id l h => (hd id l h).2.1⟩
  · obtain ⟨h1, h2, h3⟩ := hd id l h
    obtain ⟨_, lg, h4⟩ := meet_dom h
    have := hst.mem.rel id l h1
    rw [h3] at this
    exact this.meet (hg.mem.rel id lg h4)
  · obtain ⟨h1, h2, h3⟩ := hd id l h
    exact hst.mem.ro id l h1 (by rw [h3]; exact hr)
  · obtain ⟨h1, h2, h3⟩ := hd id l h
    exact hst.mem.own id l h1 (by rw [h3]; exact hr)
  · obtain ⟨h1, h2, h3⟩ := hd x lx hx
    obtain ⟨k1, _, _⟩ := hd y ly hy
    rw [← h3]
    exact hst.mem.sep x y lx ly hxy h1 k1 hb hB

/-- What a call has done that wrote nothing of old. -/
theorem did_call (G : Reg P nt ops l call frs sts fps vs) (T : Taken ops S i) (hf0 : Full ρ0 (sts 0).h) (hst : Stage D B nt ops l frs sts fps ρ0 w0 S a w ρ H) (hall : (fps i).all = true) (hwn : (fps i).w = []) (hbad : (fps i).bad = false)
    {ρg : RM} {wg : World} (hg : SRel B ρg wg (sts i)) {st1 : St} {ρ1 : RM} {w1 : World} {v' : Value} (hh : (sts (i + 1)).h = st1.h) (hfl : (sts i).h.length ≤ st1.fl)
    (hv : VRel ρ1 (vs i) v') (hS1 : SRel B ρ1 w1 st1) (hran : Ran B (Ai.meet ρ ρg) ρ1 w w1 { sts i with fl := (sts i).h.length } st1) :
    ∃ ρ' H', Did B sts fps vs i ρ ρ' w w1 H H' v' := by
  have hd : ∀ id l, Ai.meet ρ ρg id = some l → ρ id = some l ∧ id < (sts i).h.length := fun id l h => by
    obtain ⟨h1, lg, h2⟩ := meet_dom h
    exact ⟨h1, hg.full id lg h2⟩
  have kept : ∀ k, k < w.heap.size → w1.heap[k]? = w.heap[k]? := fun k hk => hran.keep k hk fun id l hl _ => Nat.lt_of_lt_of_le (hd id l hl).2 hfl
  have hnew : ∀ id l, ρ1 id = some l → Ai.meet ρ ρg id = none → ρ id = none ∧ (sts i).h.length ≤ id ∧ id < (sts (i + 1)).h.length ∧ w.heap.size ≤ l.b := fun id l h1 h2 => by
    have q1 : (sts i).h.length ≤ id := hran.fresh id l h1 h2
    have q2 : id < st1.h.length := hS1.full id l h1
    have q3 : id < (sts (i + 1)).h.length := by rw [hh]; exact q2
    refine ⟨hst.fresh G T hf0 q1 q3, q1, q3, ?_⟩
    rcases (hran.place id l h1 h2).2 with h | ⟨k, lk, hk1, _, hk3⟩
    · exact h
    · have := (hd k lk hk1).2; omega
  have hold : ∀ id l, ρ id = some l → l.b < w.heap.size := fun id l h => by
    by_cases hr : (H id).ro = true
    · exact Nat.lt_of_lt_of_le (hst.mem.ro id l h hr) hst.mem.base
    · exact (hst.mem.own id l h (by simpa using hr)).2
  have hle1 : ρ1.le (fun id => match ρ id with | some l => some l | none => ρ1 id) := fun id l h1 => by
    cases hm : Ai.meet ρ ρg id with
    | some l2 =>
      obtain rfl : l = l2 := Option.some.inj (h1.symm.trans (hran.le id l2 hm))
      simp [(hd id l hm).1]
    | none => simp [(hnew id l h1 hm).1, h1]
  have hle : ρ.le (fun id => match ρ id with | some l => some l | none => ρ1 id) := fun id l h => by simp [h]
  have hcase : ∀ id l, (match ρ id with | some l => some l | none => ρ1 id) = some l → ρ id = some l ∨ (ρ id = none ∧ ρ1 id = some l ∧ Ai.meet ρ ρg id = none) := fun id l h => by
    cases hx : ρ id with
    | some l2 => rw [hx] at h; exact .inl h
    | none =>
      rw [hx] at h
      refine .inr ⟨rfl, h, ?_⟩
      cases hm : Ai.meet ρ ρg id with
      | none => rfl
      | some l2 => rw [(hd id l2 hm).1] at hx; cases hx
  refine ⟨fun id => match ρ id with | some l => some l | none => ρ1 id, fun id => if (ρ id).isSome then H id else hp st1.h id, ⟨Nat.le_trans hst.mem.base hran.size, ?_, ?_, ?_, ?_⟩, ?_, hv.mono hle1, ?_, ?_, ?_, ?_, ?_⟩
  · intro id l h
    rcases hcase id l h with h | ⟨h1, h2, h3⟩
    · simp only [h, Option.isSome_some, if_true]
      exact ((hst.mem.rel id l h).same (kept l.b (hold id l h))).mono hle
    · simp only [h1, Option.isSome_none, Bool.false_eq_true, if_false]
      exact (hS1.mem.rel id l h2).mono hle1
  · intro id l h hr
    rcases hcase id l h with h | ⟨h1, h2, h3⟩
    · simp only [h, Option.isSome_some, if_true] at hr
      exact hst.mem.ro id l h hr
    · simp only [h1, Option.isSome_none, Bool.false_eq_true, if_false] at hr
      exact hS1.mem.ro id l h2 hr
  · intro id l h hr
    rcases hcase id l h with h | ⟨h1, h2, h3⟩
    · simp only [h, Option.isSome_some, if_true] at hr
      exact ⟨(hst.mem.own id l h hr).1, Nat.lt_of_lt_of_le (hst.mem.own id l h hr).2 hran.size⟩
    · simp only [h1, Option.isSome_none, Bool.false_eq_true, if_false] at hr
      exact hS1.mem.own id l h2 hr
  · intro x y lx ly hxy hx hy hb hB
    rcases hcase x lx hx with h1 | ⟨h1, h2, h3⟩ <;> rcases hcase y ly hy with k1 | ⟨k1, k2, k3⟩
    · simp only [h1, Option.isSome_some, if_true]
      exact hst.mem.sep x y lx ly hxy h1 k1 hb hB
    · have := (hnew y ly k2 k3).2.2.2
      have := hold x lx h1
      omega
    · have := (hnew x lx h2 h3).2.2.2
      have := hold y ly k1
      omega
    · simp only [h1, Option.isSome_none, Bool.false_eq_true, if_false]
      exact hS1.mem.sep x y lx ly hxy h2 k2 hb hB
  · intro sX q1 q2
    refine ⟨hle, hran.os, hran.tape, hran.output, hran.size, hran.below, fun k hk _ => kept k hk, Nat.le_refl _, Nat.le_refl _, fun id l h hn => ?_⟩
    rcases hcase id l h with h | ⟨h1, h2, h3⟩
    · rw [hn] at h; cases h
    · obtain ⟨_, _, p3, p4⟩ := hnew id l h2 h3
      exact ⟨Nat.lt_of_lt_of_le p3 q2, .inl p4⟩
  · intro id lo h
    rcases hcase id lo h with h | ⟨h1, h2, h3⟩
    · exact .inl h
    · obtain ⟨_, p2, p3, _⟩ := hnew id lo h2 h3
      exact .inr ⟨h1, p2, p3⟩
  · intro id lo h hn
    simp [hn, hh]
  · intro id lo h hlt hw
    rcases hw with hw | hw
    · rw [hwn] at hw; cases hw
    · rw [hbad] at hw; cases hw
  · intro id lo h _
    simp [h]
  · intro id hid
    rw [hwn] at hid; cases hid

end
end Go.Ai
namespace Go.Ai
open Go.RowKit
set_option linter.unusedSimpArgs false
set_option linter.unusedVariables false
variable {P : Program} {ρ ρ' : RM} {w w' : World} {D : List Deferred}
section
variable {nt : Nat} {ops : Array Oper} {l : List ROper} {call : CallF} {frs : Nat → Fr} {sts : Nat → St} {fps : Nat → FP} {vs : Nat → Value}
variable {B : Nat} {ρ0 : RM} {w0 : World} {S : Nat → Prop} {a : Act} {H : Nat → O} {i : Nat}

/-- One operation, taken at a stage. -/
theorem stage_op {F : Fence} (hF : Open F) {n : Nat} {Q' : Exit → Act → World → Prop} {K : Act → World → Prop} (hcall : CallsOkD F P B call) (G : Reg P nt ops l call frs sts fps vs) (T : Taken ops S i) (hf0 : Full ρ0 (sts 0).h)
    (hst : Stage D B nt ops l frs sts fps ρ0 w0 S a w ρ H) (hgh : ∃ ρg wg ag, FRel D ρg nt (frs i) ag ∧ SRel B ρg wg (sts i)) (hK : ∀ a' w' ρ' H', Stage D B nt ops l frs sts fps ρ0 w0 (fun k => S k ∨ k = i) a' w' ρ' H' → K a' w') : wpOpIn F n P ops Q' i K a w := by
  obtain ⟨r, hr, hco, hts⟩ := G.step T.lt
  obtain ⟨o, ho, hc, hdst, hdlt, hgd, _⟩ := coper_spec hco
  have hnext : ∀ {ρ' v' w' H'}, Did B sts fps vs i ρ ρ' w w' H H' v' → K (a.put o.dst v') w' := fun hd => hK _ _ _ _ (hdst ▸ hst.next G T.lt hr T.no T.down hd)
  have hwt : Region.wanted o (yielded ops a.tmps) = wanted (frs i) r.guard := wanted_rel hco ho fun d wv hg => by
    have hd : d ∈ Ai.slots ops o := by
      rcases hgd with ⟨h1, _⟩ | ⟨j, d', wv', h1, h2, _, h4⟩
      · rw [h1] at hg; cases hg
      · rw [h4] at hg
        simp only [Option.some.injEq, Prod.mk.injEq] at hg
        obtain ⟨rfl, rfl⟩ := hg
        unfold Ai.slots
        rw [h1]
        simp [h2]
    exact hst.slot d i (Nat.le_of_lt T.lt) (G.slotCut T ho hd)
  unfold wpOpIn
  simp only [ho, hwt]
  rcases hts.act with ⟨hw, hv, hs, hfp⟩ | ⟨hw, hop⟩
  · rw [hw]
    exact ⟨fun f _ => hF.fn f, hnext (did_none hst.mem hs hfp hv)⟩
  · rw [if_pos hw]
    refine wpIn_of_run hF hc ?_
    by_cases hcl : ∃ f x, r.op = .call f x
    · obtain ⟨f, x, hcl⟩ := hcl
      rw [hcl] at hop hc
      unfold opD at hop
      split at hop
      · rename_i f' x' heq
        obtain ⟨rfl, rfl⟩ := ROp.call.inj heq
        split at hop
        · cases hop
        rename_i hy
        split at hop
        · rename_i v2 st2 hdc
          simp only [Option.some.injEq, Prod.mk.injEq] at hop
          obtain ⟨rfl, hst2, hfp⟩ := hop
          have hall : (fps i).all = true := by rw [← hfp]
          have hwn : (fps i).w = [] := by rw [← hfp]
          cases hbad : (fps i).bad with
          | true =>
            obtain ⟨hag, hS⟩ := hst.full G T hf0 hall hbad
            unfold doCall at hdc
            split at hdc
            · rename_i g args ht
              obtain ⟨hcb, hok⟩ := hcall _ _ _ _ _ hdc (target_lt ht hy)
              obtain ⟨vs', hvs, hrun⟩ := run_callOp (w := w) hc (hst.given G T ho hc) ht (target_lt ht hy) hcb
              rw [hrun]
              refine ⟨fun h => absurd h (by rw [hF.depth]; simp), ?_⟩
              refine (hok rfl (n - 1) ρ w vs' hvs (hS.fl _)).mono fun e w1 he => ?_
              cases e with
              | returned v' =>
                obtain ⟨v, st1, ρ1, ⟨h1, rfl⟩, h2, h3, h4⟩ := he
                obtain rfl := Out.ret.inj h1
                have hj := h4.joined hS.full
                rw [hst2] at hj
                have hh : (sts (i + 1)).h = st1.h := by rw [← hst2]; rfl
                refine hnext (H' := hp (sts (i + 1)).h) ⟨by rw [hh]; exact h3.mem, fun sX q1 q2 => hj.toRanW.weaken q1 q2, h2, ?_, fun _ _ _ _ => rfl, fun _ _ _ _ _ => rfl, ?_, fun id hid => by rw [hwn] at hid; cases hid⟩
                · intro id lo hid
                  cases hx : ρ id with
                  | some lo' =>
                    left
                    obtain rfl : lo = lo' := Option.some.inj (hid.symm.trans (hj.le id lo' hx))
                    rfl
                  | none => exact .inr ⟨rfl, hj.fresh id lo hid hx, (hj.place id lo hid hx).1⟩
                · intro id lo hid hno
                  obtain ⟨q1, q2⟩ := hag id lo hid
                  exact absurd ⟨q1, .inr hbad⟩ hno
              | panicked chain => obtain ⟨v, v', st1, ρ1, ⟨h1, _⟩, _⟩ := he; cases h1
              | outgrown => exact he.elim
            · cases hdc
          | false =>
            obtain ⟨ρg, wg, ag, hgf, hgS⟩ := hgh
            unfold doCall at hdc
            split at hdc
            · rename_i g args ht
              obtain ⟨hcb, hok⟩ := hcall _ _ _ _ _ hdc (target_lt ht hy)
              obtain ⟨vs', hvs, hrun⟩ := run_callOp (w := w) hc (hst.given G T ho hc) ht (target_lt ht hy) hcb
              obtain ⟨vs2, hvs2, _⟩ := run_callOp (w := wg) hc (given_of hc hgf) ht (target_lt ht hy) hcb
              rw [hrun]
              refine ⟨fun h => absurd h (by rw [hF.depth]; simp), ?_⟩
              refine (hok rfl (n - 1) (meet ρ ρg) w vs' (hvs.meet hvs2) ((hst.meet G T hall hgS).fl _)).mono fun e w1 he => ?_
              cases e with
              | returned v' =>
                obtain ⟨v, st1, ρ1, ⟨h1, rfl⟩, h2, h3, h4⟩ := he
                obtain rfl := Out.ret.inj h1
                have hh : (sts (i + 1)).h = st1.h := by rw [← hst2]; rfl
                have hfl : (sts i).h.length ≤ st1.fl := by
                  rw [← hfp] at hbad
                  simpa using hbad
                obtain ⟨ρ', H', hd⟩ := did_call G T hf0 hst hall hwn hbad hgS hh hfl h2 h3 h4
                exact hnext hd
              | panicked chain => obtain ⟨v, v', st1, ρ1, ⟨h1, _⟩, _⟩ := he; cases h1
              | outgrown => exact he.elim
            · cases hdc
        · cases hop
      · rename_i hne
        exact absurd rfl (hne f x)
    · have hnc : ∀ f x, r.op ≠ .call f x := fun f x e => hcl ⟨f, x, e⟩
      have hs : step r.op (ev (frs i)) (sts i) = some (.val (vs i), sts (i + 1)) ∧ (fps i) = { fpOf r.op (ev (frs i)) (sts i) with al := (sts (i + 1)).h.length != (sts i).h.length } := by
        unfold opD at hop
        split at hop
        · rename_i f x heq; exact absurd heq (hnc f x)
        · split at hop
          · rename_i v2 st2 h1
            simp only [Option.some.injEq, Prod.mk.injEq] at hop
            obtain ⟨rfl, rfl, h2⟩ := hop
            exact ⟨h1, h2.symm⟩
          · cases hop
      obtain ⟨ρ', v', w', H', hrun, hd⟩ := did_step G T hf0 hst ho hc hnc hs.1 (by rw [hs.2]) (by rw [hs.2]) (by rw [hs.2]; exact fpOf_bad.1)
      exact uponIn_step hrun (hnext hd)

theorem edges_back {ops : Array Oper} (h : edgesOk ops = true) {k : Nat} {o : Oper} (ho : ops[k]? = some o) : ∀ e ∈ o.after, Region.binds .any e = true → e.on < k := by
  have hk : k < ops.size := (Array.getElem?_eq_some_iff.1 ho).1
  have := List.all_eq_true.1 h k (List.mem_range.2 hk)
  rw [ho] at this
  intro e he hb
  simpa [hb] using Array.all_eq_true_iff_forall_mem.1 this e he

theorem stages {F : Fence} (hF : Open F) {n : Nat} {Q' : Exit → Act → World → Prop} (hcall : CallsOkD F P B call) (G : Reg P nt ops l call frs sts fps vs) (hf0 : Full ρ0 (sts 0).h) (hgh : ∀ j, j ≤ ops.size → ∃ ρg wg ag, FRel D ρg nt (frs j) ag ∧ SRel B ρg wg (sts j))
    (hQ : ∀ a w ρ H, Stage D B nt ops l frs sts fps ρ0 w0 (fun k => k < ops.size) a w ρ H → Q' .normal a w) : ∀ (fuel : Nat) (listed : Array Bool) (a : Act) (w : World) (ρ : RM) (H : Nat → O), listed.size = ops.size →
    ((List.range ops.size).filter fun k => !listed.getD k false).length ≤ fuel → (∀ x y, listed.getD x false = true → anc ops x y → listed.getD y false = true) →
    Stage D B nt ops l frs sts fps ρ0 w0 (fun k => listed.getD k false = true) a w ρ H → wpAnyIn F n P .any ops Q' fuel listed a w := by
  -- where nothing is ready all has been taken
  have hdone : ∀ (listed : Array Bool) (a : Act) (w : World) (ρ : RM) (H : Nat → O), listed.size = ops.size → Region.ready .any ops listed = [] → Stage D B nt ops l frs sts fps ρ0 w0 (fun k => listed.getD k false = true) a w ρ H → Q' .normal a w := by
    intro listed a w ρ H hsz hrd hst
    have hall : ∀ k, k < ops.size → listed.getD k false = true := by
      intro k
      induction k using Nat.strongRecOn with
      | ind k ih =>
        intro hk
        refine Classical.byContradiction fun hn => ?_
        have hko : ops[k]? = some ops[k] := by simp [hk]
        have : k ∈ Region.ready .any ops listed := mem_ready.2 ⟨by
          have : k < listed.size := by rw [hsz]; exact hk
          simp [Array.getD_eq_getD_getElem?, this] at hn ⊢
          exact hn, _, hko, fun e he hb => ih e.on (edges_back G.edges hko e he hb) (Nat.lt_trans (edges_back G.edges hko e he hb) hk)⟩
        rw [hrd] at this
        cases this
    have heq : (fun k => listed.getD k false = true) = fun k => k < ops.size := by
      funext k
      refine propext ⟨fun h => ?_, hall k⟩
      refine Classical.byContradiction fun hn => ?_
      have : listed.size ≤ k := by omega
      simp [Array.getD_eq_getD_getElem?, Array.getElem?_eq_none this] at h
    rw [heq] at hst
    exact hQ a w ρ H hst
  intro fuel
  induction fuel with
  | zero =>
    intro listed a w ρ H hsz hfu hdn hst
    have hrd : Region.ready .any ops listed = [] := by
      refine List.eq_nil_iff_forall_not_mem.2 fun k hk => ?_
      obtain ⟨h1, o, ho, _⟩ := mem_ready.1 hk
      have hk' : k < ops.size := (Array.getElem?_eq_some_iff.1 ho).1
      have h0 : ((List.range ops.size).filter fun k => !listed.getD k false) = [] := List.length_eq_zero_iff.1 (by omega)
      have := List.filter_eq_nil_iff.1 h0 k (List.mem_range.2 hk')
      have hs : k < listed.size := by rw [hsz]; exact hk'
      simp [Array.getD_eq_getD_getElem?, hs] at this h1
      rw [h1] at this; cases this
    exact ⟨hrd, hdone listed a w ρ H hsz hrd hst⟩
  | succ fuel ih =>
    intro listed a w ρ H hsz hfu hdn hst
    refine ⟨fun hrd => hdone listed a w ρ H hsz hrd hst, fun i hi => ?_⟩
    obtain ⟨h1, o, ho, hedge⟩ := mem_ready.1 hi
    have hi' : i < ops.size := (Array.getElem?_eq_some_iff.1 ho).1
    have hs : i < listed.size := by rw [hsz]; exact hi'
    have hno : listed.getD i false = false := by simp [Array.getD_eq_getD_getElem?, hs] at h1 ⊢; exact h1
    have T : Taken ops (fun k => listed.getD k false = true) i := by
      refine ⟨hi', by rw [hno]; simp, fun j hj => ?_, hdn⟩
      obtain ⟨e, he, hb, h2⟩ := before_spec ho hj
      have hl := hedge e he hb
      rcases h2 with rfl | h2
      · exact hl
      · exact hdn e.on j hl h2
    have hset : ∀ k, (listed.setIfInBounds i true).getD k false = true ↔ (listed.getD k false = true ∨ k = i) := fun k => by
      by_cases hk : k = i
      · subst hk; simp [Array.getD_eq_getD_getElem?, hs]
      · rw [getD_set_ne false (Ne.symm hk)]; simp [hk]
    refine stage_op hF hcall G T hf0 hst (hgh i (Nat.le_of_lt hi')) fun a' w' ρ' H' hst' => ?_
    refine ih _ a' w' ρ' H' (by simp [hsz]) ?_ ?_ ?_
    · have hsub : ((List.range ops.size).filter fun k => !(listed.setIfInBounds i true).getD k false) = ((List.range ops.size).filter fun k => !listed.getD k false).filter fun k => k != i := by
        rw [List.filter_filter]
        refine List.filter_congr fun k _ => ?_
        have := hset k
        by_cases hk : k = i
        · subst hk; simp [this.2 (.inr rfl)]
        · rw [getD_set_ne false (Ne.symm hk)]; simp [hk]
      rw [hsub]
      have hmem : i ∈ (List.range ops.size).filter fun k => !listed.getD k false := List.mem_filter.2 ⟨List.mem_range.2 hi', by rw [hno]; rfl⟩
      have := (List.length_filter_lt_length_iff_exists (p := fun k => k != i)).2 ⟨i, hmem, by simp⟩
      omega
    · intro x y hx hxy
      rw [hset] at hx ⊢
      rcases hx with hx | rfl
      · exact .inl (hdn x y hx hxy)
      · exact .inl (T.up y hxy)
    · have : (fun k => (listed.setIfInBounds i true).getD k false = true) = fun k => listed.getD k false = true ∨ k = i := by funext k; exact propext (hset k)
      rw [this]; exact hst'

theorem drawOk {F : Fence} (hF : Open F) (hm : P.follows .mixedOrders = true) {B : Nat} : DrawOk F P B CallKept := by
  intro call hcall hk D n nt id ops l fr st e fr' st' a w ρ Q' hl hr hf hS hQ
  obtain ⟨frs, sts, fps, vs, G, e1, e2, e3, e4⟩ := Reg.of hl hr hk
  refine wpIn_region_any hm ?_
  have hno : ∀ k, (Array.replicate ops.size false).getD k false = false := fun k => by
    rw [Array.getD_eq_getD_getElem?]
    by_cases h : k < ops.size
    · simp [h]
    · rw [Array.getElem?_eq_none (by simp; omega)]; rfl
  have hS' : SRel B ρ { w with drawn := w.drawn + 1 } st := ⟨⟨hS.mem.base, fun id l h => (hS.mem.rel id l h).same rfl, hS.mem.ro, hS.mem.own, hS.mem.sep⟩, hS.full⟩
  have hran : RanW B ρ ρ w { w with drawn := w.drawn + 1 } st st := ⟨RM.le_refl ρ, rfl, rfl, rfl, Nat.le_refl _, fun _ _ => rfl, fun _ _ _ => rfl, Nat.le_refl _, Nat.le_refl _, fun id l h k => by rw [h] at k; cases k⟩
  refine stages (D := D) hF hcall G (ρ0 := ρ) (w0 := w) (B := B) (by rw [e2]; exact hS.full) (G.ghost hF hcall (by rw [e1]; exact hf) (by rw [e2]; exact hS)) (fun a' w' ρ' H hst => ?_) ops.size _ a _ ρ (hp st.h) (by simp) ?_ (fun x y h => by rw [hno] at h; cases h) ?_
  · have hfr : FRel D ρ' nt fr' a' := ⟨hst.tsize, fun t => by
      rw [← e3]
      exact hst.slot t ops.size (Nat.le_refl _) fun k r hk _ => ⟨fun h => h, fun h => h⟩, hst.defers⟩
    have hfull : Full ρ' st'.h := fun id lo hid => by
      rw [← e4]
      rcases hst.dom id lo hid with ⟨lo0, h0⟩ | ⟨k, hk', _, _, h4⟩
      · have := hS.full id lo0 h0
        rw [← e2] at this
        exact Nat.lt_of_lt_of_le this (G.mono (Nat.zero_le _) (Nat.le_refl _)).len
      · exact Nat.lt_of_lt_of_le h4 (G.mono (by omega) (Nat.le_refl _)).len
    have hmem : WRel B ρ' w' (hp st'.h) := hst.mem.congr fun id lo hid => by
      rw [← e4]
      exact hst.blk id lo ops.size (Nat.le_refl _) hid (by rw [e4]; exact hfull id lo hid) fun k hk _ _ => ⟨fun h => h, fun h => h⟩
    have hw : RanW B ρ ρ' w w' st st' := by
      have h0 := G.mono (i := 0) (j := ops.size) (Nat.zero_le _) (Nat.le_refl _)
      have := hst.ran (sts ops.size) h0.fl h0.len fun k hk _ => ⟨(G.mono (i := k + 1) (by omega) (Nat.le_refl _)).fl, (G.mono (i := k + 1) (by omega) (Nat.le_refl _)).len⟩
      rw [e2, e4] at this
      exact this
    refine hQ ρ' a' w' hfr ⟨hmem, hfull⟩ ⟨hw, fun id lo hid hn => ?_⟩
    rcases hst.dom id lo hid with ⟨lo0, h0⟩ | ⟨k, hk', _, h3, _⟩
    · rw [hn] at h0; cases h0
    · rw [← e2]
      exact Nat.le_trans (G.mono (i := 0) (j := k) (Nat.zero_le _) (by omega)).len h3
  · exact Nat.le_trans (List.length_filter_le _ _) (by simp)
  · refine ⟨hS'.mem, hf.size, hf.defers, fun sF h1 h2 _ => ?_, fun t j hj hc => ?_, fun id lo j hj hid hlt hc => ?_, fun id lo hid => .inl ⟨lo, hid⟩, fun k _ hk => by rw [hno] at hk; cases hk⟩
    · rw [e2] at h1 h2 ⊢
      exact ⟨hran.le, hran.os, hran.tape, hran.output, hran.size, hran.below, fun k hk hid => rfl, h1, h2, fun id l h k => by rw [h] at k; cases k⟩
    · have : get (frs j) t = get (frs 0) t := G.slotStable (Nat.zero_le _) hj fun k r _ hkj hk hd => by
        have := (hc k r hk hd).2 hkj
        rw [hno] at this; cases this
      rw [this, e1]
      exact hf.rel t
    · have hid0 : id < (sts 0).h.length := by rw [e2]; exact hS.full id lo hid
      rw [← e2]
      refine (G.stable (Nat.zero_le _) hj hid0 fun k _ hkj => ?_).symm
      have hlk : id < (sts k).h.length := Nat.lt_of_lt_of_le hid0 (G.mono (Nat.zero_le _) (by omega)).len
      have hnot : ¬ (id ∈ (fps k).w ∨ (fps k).bad = true) := fun hk => by
        have := (hc k (by omega) hlk hk).2 hkj
        rw [hno] at this; cases this
      simp only [not_or, Bool.not_eq_true] at hnot
      exact hnot

end
end Go.Ai
namespace Go.Ai
open Go.RowKit
set_option linter.unusedSimpArgs false
set_option linter.unusedVariables false
variable {P : Program}

theorem open_wide : Open Fence.wide := ⟨fun _ => trivial, rfl⟩

theorem runOk_wide {B : Nat} {E : Env} (hm : P.follows .mixedOrders = true) (hE : EnvOk Fence.wide P B E) (hS : SumsKept E) (m : Nat) : RunOk Fence.wide P B E m :=
  runOk open_wide rfl hE (K := CallKept) (fun m => callKept_of hS (exec_kept hS m)) (fun o => drawOk (F := { Fence.wide with round := o }) ⟨fun _ => trivial, rfl⟩ hm) m

theorem runOk_in {B : Nat} {E : Env} (hm : P.follows .mixedOrders = true) (hE : EnvOk Fence.wide P B E) (hS : SumsKept E) (m l : Nat) : RunOk (Fence.wide.inRound l) P B E m :=
  runOk_all open_wide rfl hE (K := CallKept) (fun m => callKept_of hS (exec_kept hS m)) (fun o => drawOk (F := { Fence.wide with round := o }) ⟨fun _ => trivial, rfl⟩ hm) m (some l)

theorem callsOk_wide {B : Nat} {E : Env} (hm : P.follows .mixedOrders = true) (hE : EnvOk Fence.wide P B E) (hS : SumsKept E) (m : Nat) : CallsOk Fence.wide P B (callP E m) :=
  callsOk_of open_wide rfl hE (runOk_wide hm hE hS m) (fun l => runOk_in hm hE hS m l)

/-- What the deterministic run says of a call. -/
theorem calls_of_exec {B : Nat} {E : Env} (hm : P.follows .mixedOrders = true) (hE : EnvOk Fence.wide P B E) (hS : SumsKept E) {m : Nat} {f : FuncId} {args : List Value} {st st' : St} {o : Out} (h : call E m f args st = some (o, st')) (hf : f < yB) (hfl : st.fl = st.h.length)
    {ρ : RM} {w : World} {args' : List Value} (ha : LRel ρ args args') (hr : SRel B ρ w st) : Calls P f args'.toArray w (CPost B ρ w st fun o2 st2 => o2 = o ∧ st2 = st') :=
  callsIn_wide.1 ((callsOkD_of (callsOk_wide hm hE hS m) f args st o st' h hf).2 hfl 0 ρ w args' ha hr)

/-- What the transformer says of a call. -/
theorem calls_of_runP {B : Nat} {E : Env} (hm : P.follows .mixedOrders = true) (hE : EnvOk Fence.wide P B E) (hS : SumsKept E) {m : Nat} {f : FuncId} {args : List Value} {st : St} {Q : Out → St → Prop} (h : callP E m f args st Q) (hf : f < yB) (hfl : st.fl = st.h.length)
    {ρ : RM} {w : World} {args' : List Value} (ha : LRel ρ args args') (hr : SRel B ρ w st) : Calls P f args'.toArray w (CPost B ρ w st Q) :=
  callsIn_wide.1 (((callsOk_wide hm hE hS m f args st Q h).2 hf).2 hfl 0 ρ w args' ha hr)

end Go.Ai
