/- The control; calls. -/
import Derived.Test.YtdbkhecnkhjhpaaAi19
import Derived.LoopNIn
namespace Go.Ai
open Go.RowKit
set_option linter.unusedSimpArgs false
set_option linter.unusedVariables false
variable {P : Program} {ρ ρ' : RM} {w w' : World} {D : List Deferred}

theorem resOne_ok {B nt : Nat} {st : St} {fr : Fr} {a : Act} {rv : ResultVar} {r : RRes} {v : Value} (hc : cres P rv = some r) (hf : FRel D ρ nt fr a) (hS : SRel B ρ w st) (h : resOne fr st.h r = some v) :
    ∃ v', ((match rv with | .tmp t => pure (a.tmps.getD t undef) | .cell c t => do loadVar t (← asAddr (a.tmps.getD c undef)) : Sem Value)).run P w = .ok v' w ∧ VRel ρ v v' := by
  cases rv with
  | tmp t =>
    simp only [cres, Option.some.injEq] at hc
    subst hc
    simp only [resOne, Option.some.injEq] at h
    subst h
    exact ⟨_, rfl, hf.rel t⟩
  | cell c t =>
    simp only [cres, Option.map_eq_some_iff] at hc
    obtain ⟨n, hn, rfl⟩ := hc
    simp only [resOne] at h
    split at h
    · rename_i b i hg
      have hv := hf.rel c
      rw [hg] at hv
      obtain ⟨L, hL, hreal⟩ := hv.inv_ptr
      have hm : ∀ o, st.h[b]? = some o → CRel ρ w L o := fun o ho => by
        have := hS.mem.rel b L hL
        rw [hp_some ho] at this
        exact this
      obtain ⟨v', h1, h2⟩ := load_ok (P := P) (w := w) (v := v) hn hL hm hv (by cases n <;> exact h)
      refine ⟨v', ?_, h2⟩
      simp only [hreal] at h1 ⊢
      simpa [Instr.loadAt, Sem.run_bind, asAddr, Instr.sureAddr] using h1
    · cases h

def retV : List Value → Value
  | [v] => v
  | vs => .tuple vs.toArray

theorem results_ok {B nt : Nat} {st : St} {fr : Fr} {a : Act} {fn : Func} {rs : List RRes} {v : Value} (hc : fn.results.toList.mapM (cres P) = some rs) (hf : FRel D ρ nt fr a) (hS : SRel B ρ w st) (h : resV fr st.h rs = some v) :
    ∃ v', (results fn a.tmps).run P w = .ok v' w ∧ VRel ρ v v' := by
  have key : ∀ (l : List ResultVar) (rs : List RRes) (vs : List Value), l.mapM (cres P) = some rs → resAll fr st.h rs = some vs →
      ∃ vs', (l.mapM (fun rv => (match rv with | .tmp t => pure (a.tmps.getD t undef) | .cell c t => do loadVar t (← asAddr (a.tmps.getD c undef)) : Sem Value)) : Sem (List Value)).run P w = .ok vs' w ∧ LRel ρ vs vs' := by
    intro l
    induction l with
    | nil =>
      intro rs vs h1 h2
      simp at h1
      subst h1
      simp only [resAll, Option.some.injEq] at h2
      subst h2
      exact ⟨[], rfl, LRel.nil ρ⟩
    | cons rv l ih =>
      intro rs vs h1 h2
      simp only [List.mapM_cons, bind, Option.bind_eq_some_iff, pure, Option.some.injEq] at h1
      obtain ⟨r, hr, rs', hrs, rfl⟩ := h1
      simp only [resAll] at h2
      split at h2
      · rename_i v0 vs0 hv0 hvs0
        obtain rfl := Option.some.inj h2
        obtain ⟨v', q1, q2⟩ := resOne_ok hr hf hS hv0
        obtain ⟨vs', q3, q4⟩ := ih rs' vs0 hrs hvs0
        refine ⟨v' :: vs', ?_, LRel.cons q2 q4⟩
        rw [List.mapM_cons, Sem.run_bind, q1, Result.andThen_ok, Sem.run_bind, q3, Result.andThen_ok, Sem.run_pure]
      · cases h2
  unfold resV at h
  have hall : ∃ vs, resAll fr st.h rs = some vs ∧ v = retV vs := by
    cases hr : resAll fr st.h rs with
    | none => simp [hr] at h
    | some vs =>
      rw [hr] at h
      refine ⟨vs, rfl, ?_⟩
      match vs, h with
      | [], h => exact (Option.some.inj h).symm
      | [x], h => exact (Option.some.inj h).symm
      | x :: y :: l, h => exact (Option.some.inj h).symm
  obtain ⟨vs, hvs, rfl⟩ := hall
  obtain ⟨vs', q1, q2⟩ := key _ _ _ hc hvs
  refine ⟨retV vs', ?_, ?_⟩
  · have e : results fn a.tmps = (do
        let vs ← fn.results.mapM (fun rv => (match rv with | .tmp t => pure (a.tmps.getD t undef) | .cell c t => do loadVar t (← asAddr (a.tmps.getD c undef)) : Sem Value))
        pure (if h : vs.size = 1 then vs[0] else .tuple vs)) := by
      unfold results
      congr 2
    rw [e, Array.mapM_eq_mapM_toList, map_eq_pure_bind]
    simp only [Sem.run_bind, q1, Result.andThen_ok, Sem.run_pure]
    have hgen : ∀ l : List Value, (if h : l.toArray.size = 1 then l.toArray[0] else Value.tuple l.toArray) = retV l := by
      intro l
      match l with
      | [] => rfl
      | [x] => rfl
      | x :: y :: l => simp [retV]
    rw [hgen]
  · match vs, vs', q2 with
    | [], [], q => exact VRel.tuple' q
    | [x], [y], q => exact q.2 0 x y rfl rfl
    | x :: y :: l, x' :: y' :: l', q => exact VRel.tuple' q
    | [], _ :: _, q => have := q.1; simp at this
    | [x], [], q => have := q.1; simp at this
    | [x], _ :: _ :: _, q => have := q.1; simp at this
    | _ :: _ :: _, [], q => have := q.1; simp at this
    | _ :: _ :: _, [_], q => have := q.1; simp at this

/-- What is asked of the table of functions. -/
structure EnvOk (F : Fence) (P : Program) (B : Nat) (E : Env) : Prop where
  code : ∀ f rf, E.F f = some rf → compileF P f = some rf ∧ Callable P f
  sums : ∀ f s, E.S f = some s → Callable P f ∧ ∀ args st o st', s args st = some (o, st') → st.fl = st.h.length → ∀ n ρ w args', LRel ρ args args' → SRel B ρ w st →
    CallsIn F n P f args'.toArray w (CPost B ρ w st fun o2 st2 => o2 = o ∧ st2 = st')

/-- Calls of the deterministic run. -/
def CallsOkD (F : Fence) (P : Program) (B : Nat) (call : CallF) : Prop :=
  ∀ f args st o st', call f args st = some (o, st') → Callable P f ∧ (st.fl = st.h.length → ∀ n ρ w args', LRel ρ args args' → SRel B ρ w st → CallsIn F n P f args'.toArray w (CPost B ρ w st fun o2 st2 => o2 = o ∧ st2 = st'))

/-- Regions that draw their order are sound. -/
def DrawOk (F : Fence) (P : Program) (B : Nat) (K : CallF → Prop) : Prop :=
  ∀ (call : CallF), CallsOkD F P B call → K call → ∀ {D : List Deferred} (n nt id : Nat) (ops : Array Oper) (l : List ROper) (fr : Fr) (st : St) (e : Ex) (fr' : Fr) (st' : St) (a : Act) (w : World) (ρ : RM) (Q' : Exit → Act → World → Prop),
    cops P nt ops true = some l → runOpsD call 0 [] l fr st = some (e, fr', st') → FRel D ρ nt fr a → SRel B ρ w st →
    (∀ ρ' a' w', FRel D ρ' nt fr' a' → SRel B ρ' w' st' → Ran B ρ ρ' w w' st st' → Q' .normal a' w') → (Code.region id ops true).wpIn F n P Q' a w

theorem runOpsD_normal {call : CallF} : ∀ (l : List ROper) (i : Nat) (acc : List (Nat × FP)) (fr : Fr) (st : St) (e : Ex) (fr' : Fr) (st' : St), runOpsD call i acc l fr st = some (e, fr', st') → e = .normal := by
  intro l
  induction l with
  | nil => intro i acc fr st e fr' st' h; simp only [runOpsD, Option.some.injEq, Prod.mk.injEq] at h; exact h.1.symm
  | cons o os ih =>
    intro i acc fr st e fr' st' h
    simp only [runOpsD] at h
    split at h
    · split at h
      · split at h
        · cases h
        · exact ih _ _ _ _ _ _ _ h
      · cases h
    · exact ih _ _ _ _ _ _ _ h

theorem callsOkD_of {F : Fence} {B : Nat} {E : Env} {m : Nat} (h : CallsOk F P B (callP E m)) : CallsOkD F P B (callSig E.S (callOf E.F (exec E m))) := by
  intro f args st o st' hc
  refine h f args st (fun o2 st2 => o2 = o ∧ st2 = st') ?_
  unfold callSig at hc
  unfold callP callPSig
  split at hc
  · rename_i sm hsm
    rw [hsm]
    show (match sm args st with | some (o2, st2) => o2 = o ∧ st2 = st' | none => False)
    rw [hc]
    exact ⟨rfl, rfl⟩
  · rename_i hsm
    rw [hsm]
    unfold callOf at hc
    show callPOf E.F (runP E m) f args st _
    unfold callPOf
    split at hc
    · cases hc
    · rename_i rf hrf
      rw [hrf]
      split at hc
      · rename_i fr1 st1 h1
        simp only [Option.map_eq_some_iff] at hc
        obtain ⟨v, hv, hb⟩ := hc
        exact runP_of _ _ _ _ _ _ _ _ h1 ⟨v, hv, by rw [hb], by rw [hb]⟩
      · rename_i fr1 st1 h1
        simp only [Option.map_eq_some_iff] at hc
        obtain ⟨v, hv, hb⟩ := hc
        exact runP_of _ _ _ _ _ _ _ _ h1 ⟨v, hv, by rw [hb], by rw [hb]⟩
      · rename_i v fr1 st1 h1
        simp only [Option.some.injEq] at hc
        exact runP_of _ _ _ _ _ _ _ _ h1 ⟨by rw [hc], by rw [hc]⟩
      · cases hc

/-- The code's theorem, as a statement. -/
def RunOk (F : Fence) (P : Program) (B : Nat) (E : Env) (m : Nat) : Prop :=
  ∀ {D : List Deferred} (n nt : Nat) (c : Code) (R : R) (fr : Fr) (st : St) (Q : Ex → Fr → St → Prop) (a : Act) (w : World) (ρ : RM) (Q' : Exit → Act → World → Prop),
    compile P nt c = some R → runP E m R fr st Q → FRel D ρ nt fr a → SRel B ρ w st →
    (∀ ex fr' st' ρ' e a' w', Q ex fr' st' → XRel ρ' ex e → FRel D ρ' nt fr' a' → SRel B ρ' w' st' → Ran B ρ ρ' w w' st st' → Q' e a' w') → c.wpIn F n P Q' a w

theorem args_frame {nt : Nat} {args : List Value} {args' : List Value} (h : LRel ρ args args') : FRel [] ρ nt args { tmps := args'.toArray ++ Array.replicate (nt - args'.toArray.size) undef, defers := [] } := by
  refine ⟨by simp; omega, fun i => ?_, rfl⟩
  show VRel ρ (get args i) ((args'.toArray ++ Array.replicate (nt - args'.toArray.size) undef).getD i undef)
  rw [Array.getD_eq_getD_getElem?]
  unfold get
  rw [List.getD_eq_getElem?_getD]
  by_cases hi : i < args.length
  · obtain ⟨b, hb, hv⟩ := h.get (List.getElem?_eq_getElem hi)
    have hi' : i < args'.length := by rw [← h.1]; exact hi
    rw [Array.getElem?_append_left (by simpa using hi'), List.getElem?_eq_getElem hi]
    simp only [List.getElem?_toArray, hb, Option.getD_some]
    exact hv
  · rw [List.getElem?_eq_none (by omega)]
    have : ((args'.toArray ++ Array.replicate (nt - args'.toArray.size) undef)[i]?).getD undef = undef := by
      rw [Array.getElem?_append_right (by simp; have := h.1; omega)]
      cases hq : (Array.replicate (nt - args'.toArray.size) undef)[i - args'.toArray.size]? with
      | none => rfl
      | some x =>
        obtain ⟨_, hx⟩ := Array.getElem?_eq_some_iff.1 hq
        simp at hx
        simp [← hx]
    rw [this]
    exact VRel.undef_ ρ

theorem callsOk_of {F : Fence} (hF : Open F) (hro : F.round = none) {B : Nat} {E : Env} (hE : EnvOk F P B E) {m : Nat} (h : RunOk F P B E m) : CallsOk F P B (callP E m) := by
  intro f args st Q hc
  unfold callP callPSig at hc
  split at hc
  · rename_i sm hsm
    split at hc
    · rename_i o st' hs
      obtain ⟨hcb, hok⟩ := hE.sums f sm hsm
      refine ⟨hcb, fun hfl n ρ w args' hargs hS => ?_⟩
      refine (hok args st o st' hs hfl n ρ w args' hargs hS).mono fun e w' he => ?_
      cases e with
      | returned v' => obtain ⟨v, st1, ρ1, ⟨h1, rfl⟩, h2⟩ := he; exact ⟨v, st1, ρ1, h1 ▸ hc, h2⟩
      | panicked chain => obtain ⟨v, v', st1, ρ1, ⟨h1, rfl⟩, h2⟩ := he; exact ⟨v, v', st1, ρ1, h1 ▸ hc, h2⟩
      | outgrown => exact he.elim
    · exact hc.elim
  · unfold callPOf at hc
    split at hc
    · exact hc.elim
    · rename_i rf hrf
      obtain ⟨hcomp, hcb⟩ := hE.code f rf hrf
      refine ⟨hcb, fun hfl n ρ w args' hargs hS => ?_⟩
      unfold compileF at hcomp
      split at hcomp
      · rename_i fn hfn
        split at hcomp
        · rename_i c hbody
          split at hcomp
          · rename_i r rs hr hrs
            obtain rfl := Option.some.inj hcomp
            refine callsIn_of_wp hfn hbody (hF.fn f) ?_ hro
            refine h n fn.ntmps c r args st _ _ w ρ _ hr hc (args_frame hargs) hS fun ex fr' st' ρ' e a' w' hq hx hf' hS' hran => ?_
            -- back from the call
            have hback : ∀ (o : Out), ((back st o st').1 = o) ∧ ∃ ρ2, SRel B ρ2 w' (back st o st').2 ∧ Ran B ρ ρ2 w w' st (back st o st').2 ∧ ∀ v v', (o = .ret v ∨ o = .pan v) → VRel ρ' v v' → VRel ρ2 v v' := fun o => by
              unfold back
              split
              · rename_i hcond
                simp only [Bool.and_eq_true, decide_eq_true_eq] at hcond
                have hst : ({ st with fl := st.h.length } : St) = st := by rw [← hfl]
                obtain ⟨b1, b2⟩ := hS.back (by rw [hst]; exact hran) hcond.2
                refine ⟨rfl, ρ, b1, b2, fun v v' ho hv => ?_⟩
                have hsc : Ai.scalar v = true := by rcases ho with rfl | rfl <;> exact hcond.1
                exact hv.scalar' hsc ρ
              · exact ⟨rfl, ρ', hS', hran, fun v v' _ hv => hv⟩
            cases ex with
            | normal =>
              cases e <;> simp only [XRel] at hx
              obtain ⟨v, hv, hqq⟩ := hq
              obtain ⟨v', h1, h2⟩ := results_ok hrs hf' hS' hv
              obtain ⟨e1, ρ2, b1, b2, b3⟩ := hback (.ret v)
              rw [e1] at hqq
              exact ⟨hf'.defers, v', h1, v, _, ρ2, hqq, b3 v v' (.inl rfl) h2, b1, b2⟩
            | ret =>
              cases e <;> simp only [XRel] at hx
              obtain ⟨v, hv, hqq⟩ := hq
              obtain ⟨v', h1, h2⟩ := results_ok hrs hf' hS' hv
              obtain ⟨e1, ρ2, b1, b2, b3⟩ := hback (.ret v)
              rw [e1] at hqq
              exact ⟨hf'.defers, v', h1, v, _, ρ2, hqq, b3 v v' (.inl rfl) h2, b1, b2⟩
            | pan v =>
              cases e <;> simp only [XRel] at hx
              obtain ⟨v', h2, rfl⟩ := hx
              obtain ⟨e1, ρ2, b1, b2, b3⟩ := hback (.pan v)
              have hqq : Q (back st (.pan v) st').1 (back st (.pan v) st').2 := hq
              rw [e1] at hqq
              exact ⟨hf'.defers, v, v', _, ρ2, hqq, b3 v v' (.inr rfl) h2, rfl, b1, b2⟩
            | exit id => exact hq.elim
          · cases hcomp
        · cases hcomp
      · cases hcomp

end Go.Ai
