/- Functions that defer a closure which recovers: what they return. -/
import Derived.Test.YtdbkhecnkhjhpaaAi30
import Derived.Test.YtdbkhecnkhjhpaaAiX
import Derived.TacticsInMore
import Derived.RecoverIn
namespace Go.Ai
open Go.RowKit
set_option linter.unusedSimpArgs false
set_option linter.unusedVariables false
variable {P : Program} {ρ ρ' : RM} {w w' : World} {D : List Deferred}

theorem wpIn_of_DW {B : Nat} {E : Env} (hm : P.follows .mixedOrders = true) (hE : EnvOk Fence.wide P B E) (hS : SumsKept E) {nt : Nat} {c : Code} {r : R} (hc : compile P nt c = some r) {fr : Fr} {st : St} {Q : Post} (h : DW E r fr st Q) {a : Act}
    (hf : FRel D ρ nt fr a) (hR : SRel B ρ w st) {Q' : Exit → Act → World → Prop} {n : Nat}
    (hq : ∀ ex fr' st' ρ' e a' w', Q ex fr' st' → XRel ρ' ex e → FRel D ρ' nt fr' a' → SRel B ρ' w' st' → Ran B ρ ρ' w w' st st' → Q' e a' w') : c.wpIn Fence.wide n P Q' a w := by
  obtain ⟨m, e, fr', st', h1, h2⟩ := h
  exact runOk_wide hm hE hS m n nt c r fr st Q a w ρ Q' hc (runP_of m r fr st Q e fr' st' h1 h2) hf hR hq

/-- How a closure that recovers finds the frame below, what it gets, and how it leaves it. -/
inductive Catch : FrameMode → Value → FrameMode → Prop
  | idle : Catch .returning .nilIface .returning
  | caught (t : TypeId) (v : Value) : Catch (.panicking [{ v := .iface t v, recovered := false }]) (.iface t v) (.panicking [{ v := .iface t v, recovered := true }])
theorem Catch.settle {u u' : FrameMode} {v : Value} (h : Catch u v u') : Go.settle u' = .returning := by
  cases h <;> rfl
theorem Catch.run {u u' : FrameMode} {v : Value} (h : Catch u v u') : u ≠ .run := by
  cases h <;> simp

theorem closure_calls {B : Nat} {E : Env} (hm : P.follows .mixedOrders = true) (hE : EnvOk Fence.wide P B E) (hS : SumsKept E) {g : FuncId} {fg : Func} {j d5 ty : Nat} {ps : String} {Y : Code} {rY : R} (hfg : P.funcs[g]? = some fg)
    (hb : fg.body = some (.seq (.region j #[{ dst := some d5, op := .call { callee := .builtin .recover, args := #[], argTypes := #[] }, type := ty, pos := ps, after := #[], guard := none }] false) Y))
    (hY : compile P fg.ntmps Y = some rY) (hd5 : d5 < fg.ntmps) (hres : fg.results = #[])
    {u u' : FrameMode} {t5 t5' : Value} (hu : Catch u t5' u') (ht : VRel ρ t5 t5') {args args' : List Value} {st st' : St} (h : DW E rY (put args d5 t5) st (fun ex _ st3 => ex = .normal ∧ st3 = st'))
    (ha : LRel ρ args args') (hR : SRel B ρ w st) {n : Nat} :
    CallsDIn Fence.wide n P g args'.toArray u w fun e u2 w2 => e = .returned (.tuple #[]) ∧ u2 = u' ∧ ∃ ρ', SRel B ρ' w2 st' ∧ Ran B ρ ρ' w w2 st st' := by
  refine callsDIn_of_wpSIn hfg hb trivial fun c₀ cs hmode => ?_
  apply wpSIn_seq
  apply wpSIn_region
  have hf0 : FRel [] ρ fg.ntmps args { tmps := args'.toArray ++ Array.replicate (fg.ntmps - args'.toArray.size) undef, defers := [] } := args_frame ha
  have hf1 := hf0.putD (d := some d5) (fun x hx => by cases hx; exact hd5) ht
  have key : ∀ cs2 : List Frame, cs2 = { c₀ with mode := u' } :: cs → Y.wpSIn Fence.wide n P (bodyPostS P fg c₀ cs fun e u2 w2 => e = .returned (.tuple #[]) ∧ u2 = u' ∧ ∃ ρ', SRel B ρ' w2 st' ∧ Ran B ρ ρ' w w2 st st')
      (Act.put { tmps := args'.toArray ++ Array.replicate (fg.ntmps - args'.toArray.size) undef, defers := [] } (some d5) t5') cs2 w := by
    intro cs2 hcs
    refine wpSIn_of_wpIn rfl (wpIn_of_DW hm hE hS hY h hf1 hR fun ex fr' st2 ρ' e a' w' hq hx hf' hS' hran => ?_)
    obtain ⟨rfl, rfl⟩ := hq
    cases e <;> simp only [XRel] at hx
    refine ⟨hf'.defers, u', hcs, .tuple #[], ?_, rfl, rfl, ρ', hS', hran⟩
    simp [results, hres]
  cases hu with
  | idle =>
    simp [wpOpsSIn, go_sem, recoverD, hmode, Exit.thenS]
    refine key _ ?_
    cases c₀; simp_all
  | caught t v =>
    simp [wpOpsSIn, go_sem, recoverD, hmode, Exit.thenS]
    exact key _ rfl

/-- What the rest of a function returns behind 'defer': its last part, then the closure. -/
def tailR (E : Env) (r7 rY : R) (rs : List RRes) (d15 s1 s2 d5 : Nat) (g : FuncId) (fr : Fr) (st : St) (o : Out) (st' : St) : Prop :=
  DW E r7 (put fr d15 (.func (.func g) #[] #[get fr s1, get fr s2])) st fun ex fr2 st2 =>
    ∃ t5, ((ex = .ret ∧ t5 = .nilIface) ∨ ∃ t v, ex = .pan (.iface t v) ∧ t5 = .iface t v) ∧
      DW E rY (put [get fr s1, get fr s2] d5 t5) st2 fun ex3 _ st3 => (ex3 = .normal ∧ st3 = st') ∧ ∃ v, resV fr2 st3.h rs = some v ∧ o = .ret v
/-- What a part says that may return early. -/
def earlyR (rs : List RRes) (o : Out) (st' : St) (next : Fr → St → Prop) : Post := fun ex fr st =>
  (ex = .ret ∧ st = st' ∧ ∃ v, resV fr st.h rs = some v ∧ o = .ret v) ∨ (ex = .normal ∧ next fr st)
def solveR (E : Env) (r0 r2 r3 r7 rY : R) (rs : List RRes) (d15 s1 s2 d5 : Nat) (g : FuncId) (args : List Value) (st : St) (o : Out) (st' : St) : Prop :=
  DW E r0 args st fun ex fr st1 => ex = .normal ∧ DW E r2 fr st1 (earlyR rs o st' fun fr st2 => DW E r3 fr st2 (earlyR rs o st' fun fr st3 => tailR E r7 rY rs d15 s1 s2 d5 g fr st3 o st'))

theorem solve_calls {B : Nat} {E : Env} (hm : P.follows .mixedOrders = true) (hE : EnvOk Fence.wide P B E) (hS : SumsKept E) {f g : FuncId} {fn fg : Func} {j j6 d5 d15 s1 s2 ty ty1 ty2 : Nat} {ps ps1 ps2 : String} {af1 af2 : Array Edge}
    {c0 c2 c3 c7 Y : Code} {r0 r2 r3 r7 rY : R} {rs : List RRes}
    (hfg : P.funcs[g]? = some fg)
    (hb : fg.body = some (.seq (.region j #[{ dst := some d5, op := .call { callee := .builtin .recover, args := #[], argTypes := #[] }, type := ty, pos := ps, after := #[], guard := none }] false) Y))
    (hY : compile P fg.ntmps Y = some rY) (hd5 : d5 < fg.ntmps) (hres : fg.results = #[])
    (hcg : Callable P g) (hfn : P.funcs[f]? = some fn)
    (hbf : fn.body = some (.seq c0 (.seq c2 (.seq c3 (.seq (.region j6 #[{ dst := some d15, op := .makeFunc (.func g) #[] #[.tmp s1, .tmp s2], type := ty1, pos := ps1, after := af1, guard := none }, { dst := none, op := .defer { callee := .value (.tmp d15), args := #[], argTypes := #[] }, type := ty2, pos := ps2, after := af2, guard := none }] false) c7)))))
    (h0 : compile P fn.ntmps c0 = some r0) (h2 : compile P fn.ntmps c2 = some r2) (h3 : compile P fn.ntmps c3 = some r3) (h7 : compile P fn.ntmps c7 = some r7) (hrs : fn.results.toList.mapM (cres P) = some rs) (hd15 : d15 < fn.ntmps)
    {args args' : List Value} {st st' : St} {o : Out} (h : solveR E r0 r2 r3 r7 rY rs d15 s1 s2 d5 g args st o st') (ha : LRel ρ args args') (hR : SRel B ρ w st) {n : Nat} :
    CallsIn Fence.wide n P f args'.toArray w (CPost B ρ w st fun o2 st2 => o2 = o ∧ st2 = st') := by
  refine callsIn_of_wp_defers hfn hbf trivial ?_
  have hf0 : FRel [] ρ fn.ntmps args { tmps := args'.toArray ++ Array.replicate (fn.ntmps - args'.toArray.size) undef, defers := [] } := args_frame ha
  -- the way out of an early part
  have early : ∀ (fr : Fr) (st1 : St) (ρ1 : RM) (a1 : Act) (w1 : World), (st1 = st' ∧ ∃ v, resV fr st1.h rs = some v ∧ o = .ret v) → FRel [] ρ1 fn.ntmps fr a1 → SRel B ρ1 w1 st1 → Ran B ρ ρ1 w w1 st st1 →
      bodyPostDIn Fence.wide n P fn (CPost B ρ w st fun o2 st2 => o2 = o ∧ st2 = st') .ret a1 w1 := by
    rintro fr st1 ρ1 a1 w1 ⟨rfl, v, hv, rfl⟩ hf1 hR1 hran
    show LeavesIn Fence.wide n P fn a1.tmps _ a1.defers .returning w1
    rw [hf1.defers]
    obtain ⟨v', q1, q2⟩ := results_ok hrs hf1 hR1 hv
    exact ⟨v', q1, v, st1, ρ1, ⟨rfl, rfl⟩, q2, hR1, hran⟩
  refine wpIn_seq (wpIn_of_DW hm hE hS h0 h hf0 hR fun ex fr1 st1 ρ1 e a1 w1 hq hx hf1 hR1 hran1 => ?_)
  obtain ⟨rfl, hq⟩ := hq
  cases e <;> simp only [XRel] at hx
  refine wpIn_seq (wpIn_of_DW hm hE hS h2 hq hf1 hR1 fun ex fr2 st2 ρ2 e a2 w2 hq hx hf2 hR2 hran2 => ?_)
  rcases hq with ⟨rfl, hq⟩ | ⟨rfl, hq⟩ <;> cases e <;> simp only [XRel] at hx
  · exact early fr2 st2 ρ2 a2 w2 hq hf2 hR2 (hran1.trans hran2)
  refine wpIn_seq (wpIn_of_DW hm hE hS h3 hq hf2 hR2 fun ex fr3 st3 ρ3 e a3 w3 hq hx hf3 hR3 hran3 => ?_)
  rcases hq with ⟨rfl, hq⟩ | ⟨rfl, hq⟩ <;> cases e <;> simp only [XRel] at hx
  · exact early fr3 st3 ρ3 a3 w3 hq hf3 hR3 ((hran1.trans hran2).trans hran3)
  have hran13 := (hran1.trans hran2).trans hran3
  have hf4 := hf3.putD (d := some d15) (v := .func (.func g) #[] #[get fr3 s1, get fr3 s2]) (v' := .func (.func g) #[] #[a3.tmps.getD s1 undef, a3.tmps.getD s2 undef]) (fun x hx => by cases hx; exact hd15)
    (VRel.func (xs := [get fr3 s1, get fr3 s2]) (ys := [a3.tmps.getD s1 undef, a3.tmps.getD s2 undef]) rfl (LRel.cons (hf3.rel s1) (LRel.cons (hf3.rel s2) (LRel.nil _))).2)
  refine wpIn_seq ?_
  apply wpIn_region
  have hmf : ∀ (fn : Fn) (first cap : Array Value) (w : World), (Instr.makeFunc fn first cap).run P w = .ok (.func fn first cap) w := fun _ _ _ _ => rfl
  have hlt : d15 < a3.tmps.size := Nat.lt_of_lt_of_le hd15 hf3.size
  have hd3 : a3.defers = [] := hf3.defers
  simp [wpOpsIn, go_sem, hmf, Exit.then, hlt, hd3]
  have hf5 : FRel [{ target := .fn (.func g) #[a3.tmps.getD s1 undef, a3.tmps.getD s2 undef], args := #[] }] ρ3 fn.ntmps (put fr3 d15 (.func (.func g) #[] #[get fr3 s1, get fr3 s2]))
      { tmps := a3.tmps.setIfInBounds d15 (.func (.func g) #[] #[a3.tmps.getD s1 undef, a3.tmps.getD s2 undef]), defers := [{ target := .fn (.func g) #[a3.tmps.getD s1 undef, a3.tmps.getD s2 undef], args := #[] }] } := ⟨hf4.size, hf4.rel, rfl⟩
  simp only [Array.getD_eq_getD_getElem?] at hf5
  refine wpIn_of_DW hm hE hS h7 hq hf5 hR3 fun ex fr7 st7 ρ7 e a7 w7 hq hx hf7 hR7 hran7 => ?_
  obtain ⟨t5, ht5, hq⟩ := hq
  have hcap : LRel ρ7 [get fr3 s1, get fr3 s2] [a3.tmps.getD s1 undef, a3.tmps.getD s2 undef] := LRel.cons ((hf3.rel s1).mono hran7.le) (LRel.cons ((hf3.rel s2).mono hran7.le) (LRel.nil _))
  -- the closure, and what is left behind it
  have last : ∀ (u u' : FrameMode) (t5' : Value), Catch u t5' u' → VRel ρ7 t5 t5' → LeavesIn Fence.wide n P fn a7.tmps (CPost B ρ w st fun o2 st2 => o2 = o ∧ st2 = st') a7.defers u w7 := by
    intro u u' t5' hu ht
    obtain ⟨m, exY, frY, stY, e1, ⟨rfl, rfl⟩, v, hv, rfl⟩ := hq
    rw [hf7.defers]
    refine leavesIn_cons (f := g) (args := #[a3.tmps.getD s1 undef, a3.tmps.getD s2 undef]) hu.run (by simp [Fence.wide]) (by simp [go_sem, run_callFunc hcg]) (by simp [Target.leads, Fence.wide]) ?_
    refine (closure_calls hm hE hS hfg hb hY hd5 hres hu ht ⟨m, .normal, frY, stY, e1, rfl, rfl⟩ hcap hR7).mono ?_
    rintro e u2 w8 ⟨rfl, rfl, ρ8, hR8, hran8⟩
    show LeavesIn Fence.wide n P fn a7.tmps _ [] (settle u2) w8
    rw [hu.settle]
    have hf8 : FRel [{ target := .fn (.func g) #[a3.tmps[s1]?.getD undef, a3.tmps[s2]?.getD undef], args := #[] }] ρ8 fn.ntmps fr7 a7 := hf7.mono hran8.le
    obtain ⟨v', q1, q2⟩ := results_ok hrs hf8 hR8 hv
    exact ⟨v', q1, v, stY, ρ8, ⟨rfl, rfl⟩, q2, hR8, (hran13.trans hran7).trans hran8⟩
  rcases ht5 with ⟨rfl, rfl⟩ | ⟨t, v, rfl, rfl⟩
  · cases e <;> simp only [XRel] at hx
    exact last _ _ _ Catch.idle (.flat rfl rfl)
  · cases e <;> simp only [XRel] at hx
    obtain ⟨v', hv', rfl⟩ := hx
    obtain ⟨v2, rfl, hv2⟩ : ∃ v2, v' = .iface t v2 ∧ VRel ρ7 v v2 := by
      cases hv' with
      | flat h => simp [Ai.flat] at h
      | iface h => exact ⟨_, rfl, h⟩
    exact last _ _ _ (Catch.caught t v2) (.iface hv2)
end Go.Ai
