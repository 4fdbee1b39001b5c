/- Texts that were built one by one: AiV, AiN, AiM, AiP, AiQ, AiT. -/
import Derived.Test.YtdbkhecnkhjhpaaBc
import Derived.Test.YtdbkhecnkhjhpaaBd
import Derived.TacticsInMore
import Derived.RecoverIn
import Derived.ChangeArms
import Derived.SizedLaws
import Derived.ChangeReads
import Derived.ChangeOld
import Derived.ChangeSame
import Derived.ChangeShapes
import Derived.RowKit
import Derived.DataShut
/- Functions that defer a closure which recovers: what they return. -/
namespace Go.Ai
open Go.RowKit
set_option linter.unusedSimpArgs false
set_option linter.unusedVariables false
variable {P : Program} {ρ ρ' : RM} {w w' : World} {D : List Deferred}

theorem wpIn_of_DW {B : Nat} {E : Env} (hm : P.follows .mixedOrders = true) (hE : EnvOk Fence.wide P B E) (hS : SumsKept E) {nt : Nat} {c : Code} {r : R} (hc : compile P nt c = some r) {fr : Fr} {st : St} {Q : Post} (h : DW E r fr st Q) {a : Act}
    (hf : FRel D ρ nt fr a) (hR : SRel B ρ w st) {Q' : Exit → Act → World → Prop} {n : Nat}
    (hq : ∀ ex fr' st' ρ' e a' w', Q ex fr' st' → XRel ρ' ex e → FRel D ρ' nt fr' a' → SRel B ρ' w' st' → Ran B ρ ρ' w w' st st' → Q' e a' w') : c.wpIn Fence.wide n P Q' a w := by
  obtain ⟨m, e, fr', st', h1, h2⟩ := h
  exact runOk_wide hm hE hS m n nt c r fr st Q a w ρ Q' hc (runP_of m r fr st Q e fr' st' h1 h2) hf hR hq

/-- How a closure that recovers finds the frame below, what it gets, and how it leaves it. -/
inductive Catch : FrameMode → Value → FrameMode → Prop
  | idle : Catch .returning .nilIface .returning
  | caught (t : TypeId) (v : Value) : Catch (.panicking [{ v := .iface t v, recovered := false }]) (.iface t v) (.panicking [{ v := .iface t v, recovered := true }])
theorem Catch.settle {u u' : FrameMode} {v : Value} (h : Catch u v u') : Go.settle u' = .returning := by
  cases h <;> rfl
theorem Catch.run {u u' : FrameMode} {v : Value} (h : Catch u v u') : u ≠ .run := by
  cases h <;> simp

theorem closure_calls {B : Nat} {E : Env} (hm : P.follows .mixedOrders = true) (hE : EnvOk Fence.wide P B E) (hS : SumsKept E) {g : FuncId} {fg : Func} {j d5 ty : Nat} {ps : String} {Y : Code} {rY : R} (hfg : P.funcs[g]? = some fg)
    (hb : fg.body = some (.seq (.region j #[{ dst := some d5, op := .call { callee := .builtin .recover, args := #[], argTypes := #[] }, type := ty, pos := ps, after := #[], guard := none }] false) Y))
    (hY : compile P fg.ntmps Y = some rY) (hd5 : d5 < fg.ntmps) (hres : fg.results = #[])
    {u u' : FrameMode} {t5 t5' : Value} (hu : Catch u t5' u') (ht : VRel ρ t5 t5') {args args' : List Value} {st st' : St} (h : DW E rY (put args d5 t5) st (fun ex _ st3 => ex = .normal ∧ st3 = st'))
    (ha : LRel ρ args args') (hR : SRel B ρ w st) {n : Nat} :
    CallsDIn Fence.wide n P g args'.toArray u w fun e u2 w2 => e = .returned (.tuple #[]) ∧ u2 = u' ∧ ∃ ρ', SRel B ρ' w2 st' ∧ Ran B ρ ρ' w w2 st st' := by
  refine callsDIn_of_wpSIn hfg hb trivial fun c₀ cs hmode => ?_
  apply wpSIn_seq
  apply wpSIn_region
  have hf0 : FRel [] ρ fg.ntmps args { tmps := args'.toArray ++ Array.replicate (fg.ntmps - args'.toArray.size) undef, defers := [] } := args_frame ha
  have hf1 := hf0.putD (d := some d5) (fun x hx => by cases hx; exact hd5) ht
  have key : ∀ cs2 : List Frame, cs2 = { c₀ with mode := u' } :: cs → Y.wpSIn Fence.wide n P (bodyPostS P fg c₀ cs fun e u2 w2 => e = .returned (.tuple #[]) ∧ u2 = u' ∧ ∃ ρ', SRel B ρ' w2 st' ∧ Ran B ρ ρ' w w2 st st')
      (Act.put { tmps := args'.toArray ++ Array.replicate (fg.ntmps - args'.toArray.size) undef, defers := [] } (some d5) t5') cs2 w := by
    intro cs2 hcs
    refine wpSIn_of_wpIn rfl (wpIn_of_DW hm hE hS hY h hf1 hR fun ex fr' st2 ρ' e a' w' hq hx hf' hS' hran => ?_)
    obtain ⟨rfl, rfl⟩ := hq
    cases e <;> simp only [XRel] at hx
    refine ⟨hf'.defers, u', hcs, .tuple #[], ?_, rfl, rfl, ρ', hS', hran⟩
    simp [results, hres]
  cases hu with
  | idle =>
    simp [wpOpsSIn, go_sem, recoverD, hmode, Exit.thenS]
    refine key _ ?_
    cases c₀; simp_all
  | caught t v =>
    simp [wpOpsSIn, go_sem, recoverD, hmode, Exit.thenS]
    exact key _ rfl

/-- What the rest of a function returns behind 'defer': its last part, then the closure. -/
def tailR (E : Env) (r7 rY : R) (rs : List RRes) (d15 s1 s2 d5 : Nat) (g : FuncId) (fr : Fr) (st : St) (o : Out) (st' : St) : Prop :=
  DW E r7 (put fr d15 (.func (.func g) #[] #[get fr s1, get fr s2])) st fun ex fr2 st2 =>
    ∃ t5, ((ex = .ret ∧ t5 = .nilIface) ∨ ∃ t v, ex = .pan (.iface t v) ∧ t5 = .iface t v) ∧
      DW E rY (put [get fr s1, get fr s2] d5 t5) st2 fun ex3 _ st3 => (ex3 = .normal ∧ st3 = st') ∧ ∃ v, resV fr2 st3.h rs = some v ∧ o = .ret v
/-- What a part says that may return early. -/
def earlyR (rs : List RRes) (o : Out) (st' : St) (next : Fr → St → Prop) : Post := fun ex fr st =>
  (ex = .ret ∧ st = st' ∧ ∃ v, resV fr st.h rs = some v ∧ o = .ret v) ∨ (ex = .normal ∧ next fr st)
def solveR (E : Env) (r0 r2 r3 r7 rY : R) (rs : List RRes) (d15 s1 s2 d5 : Nat) (g : FuncId) (args : List Value) (st : St) (o : Out) (st' : St) : Prop :=
  DW E r0 args st fun ex fr st1 => ex = .normal ∧ DW E r2 fr st1 (earlyR rs o st' fun fr st2 => DW E r3 fr st2 (earlyR rs o st' fun fr st3 => tailR E r7 rY rs d15 s1 s2 d5 g fr st3 o st'))

theorem solve_calls {B : Nat} {E : Env} (hm : P.follows .mixedOrders = true) (hE : EnvOk Fence.wide P B E) (hS : SumsKept E) {f g : FuncId} {fn fg : Func} {j j6 d5 d15 s1 s2 ty ty1 ty2 : Nat} {ps ps1 ps2 : String} {af1 af2 : Array Edge}
    {c0 c2 c3 c7 Y : Code} {r0 r2 r3 r7 rY : R} {rs : List RRes}
    (hfg : P.funcs[g]? = some fg)
    (hb : fg.body = some (.seq (.region j #[{ dst := some d5, op := .call { callee := .builtin .recover, args := #[], argTypes := #[] }, type := ty, pos := ps, after := #[], guard := none }] false) Y))
    (hY : compile P fg.ntmps Y = some rY) (hd5 : d5 < fg.ntmps) (hres : fg.results = #[])
    (hcg : Callable P g) (hfn : P.funcs[f]? = some fn)
    (hbf : fn.body = some (.seq c0 (.seq c2 (.seq c3 (.seq (.region j6 #[{ dst := some d15, op := .makeFunc (.func g) #[] #[.tmp s1, .tmp s2], type := ty1, pos := ps1, after := af1, guard := none }, { dst := none, op := .defer { callee := .value (.tmp d15), args := #[], argTypes := #[] }, type := ty2, pos := ps2, after := af2, guard := none }] false) c7)))))
    (h0 : compile P fn.ntmps c0 = some r0) (h2 : compile P fn.ntmps c2 = some r2) (h3 : compile P fn.ntmps c3 = some r3) (h7 : compile P fn.ntmps c7 = some r7) (hrs : fn.results.toList.mapM (cres P) = some rs) (hd15 : d15 < fn.ntmps)
    {args args' : List Value} {st st' : St} {o : Out} (h : solveR E r0 r2 r3 r7 rY rs d15 s1 s2 d5 g args st o st') (ha : LRel ρ args args') (hR : SRel B ρ w st) {n : Nat} :
    CallsIn Fence.wide n P f args'.toArray w (CPost B ρ w st fun o2 st2 => o2 = o ∧ st2 = st') := by
  refine callsIn_of_wp_defers hfn hbf trivial ?_
  have hf0 : FRel [] ρ fn.ntmps args { tmps := args'.toArray ++ Array.replicate (fn.ntmps - args'.toArray.size) undef, defers := [] } := args_frame ha
  -- the way out of an early part
  have early : ∀ (fr : Fr) (st1 : St) (ρ1 : RM) (a1 : Act) (w1 : World), (st1 = st' ∧ ∃ v, resV fr st1.h rs = some v ∧ o = .ret v) → FRel [] ρ1 fn.ntmps fr a1 → SRel B ρ1 w1 st1 → Ran B ρ ρ1 w w1 st st1 →
      bodyPostDIn Fence.wide n P fn (CPost B ρ w st fun o2 st2 => o2 = o ∧ st2 = st') .ret a1 w1 := by
    rintro fr st1 ρ1 a1 w1 ⟨rfl, v, hv, rfl⟩ hf1 hR1 hran
    show LeavesIn Fence.wide n P fn a1.tmps _ a1.defers .returning w1
    rw [hf1.defers]
    obtain ⟨v', q1, q2⟩ := results_ok hrs hf1 hR1 hv
    exact ⟨v', q1, v, st1, ρ1, ⟨rfl, rfl⟩, q2, hR1, hran⟩
  refine wpIn_seq (wpIn_of_DW hm hE hS h0 h hf0 hR fun ex fr1 st1 ρ1 e a1 w1 hq hx hf1 hR1 hran1 => ?_)
  obtain ⟨rfl, hq⟩ := hq
  cases e <;> simp only [XRel] at hx
  refine wpIn_seq (wpIn_of_DW hm hE hS h2 hq hf1 hR1 fun ex fr2 st2 ρ2 e a2 w2 hq hx hf2 hR2 hran2 => ?_)
  rcases hq with ⟨rfl, hq⟩ | ⟨rfl, hq⟩ <;> cases e <;> simp only [XRel] at hx
  · exact early fr2 st2 ρ2 a2 w2 hq hf2 hR2 (hran1.trans hran2)
  refine wpIn_seq (wpIn_of_DW hm hE hS h3 hq hf2 hR2 fun ex fr3 st3 ρ3 e a3 w3 hq hx hf3 hR3 hran3 => ?_)
  rcases hq with ⟨rfl, hq⟩ | ⟨rfl, hq⟩ <;> cases e <;> simp only [XRel] at hx
  · exact early fr3 st3 ρ3 a3 w3 hq hf3 hR3 ((hran1.trans hran2).trans hran3)
  have hran13 := (hran1.trans hran2).trans hran3
  have hf4 := hf3.putD (d := some d15) (v := .func (.func g) #[] #[get fr3 s1, get fr3 s2]) (v' := .func (.func g) #[] #[a3.tmps.getD s1 undef, a3.tmps.getD s2 undef]) (fun x hx => by cases hx; exact hd15)
    (VRel.func (xs := [get fr3 s1, get fr3 s2]) (ys := [a3.tmps.getD s1 undef, a3.tmps.getD s2 undef]) rfl (LRel.cons (hf3.rel s1) (LRel.cons (hf3.rel s2) (LRel.nil _))).2)
  refine wpIn_seq ?_
  apply wpIn_region
  have hmf : ∀ (fn : Fn) (first cap : Array Value) (w : World), (Instr.makeFunc fn first cap).run P w = .ok (.func fn first cap) w := fun _ _ _ _ => rfl
  have hlt : d15 < a3.tmps.size := Nat.lt_of_lt_of_le hd15 hf3.size
  have hd3 : a3.defers = [] := hf3.defers
  simp [wpOpsIn, go_sem, hmf, Exit.then, hlt, hd3]
  have hf5 : FRel [{ target := .fn (.func g) #[a3.tmps.getD s1 undef, a3.tmps.getD s2 undef], args := #[] }] ρ3 fn.ntmps (put fr3 d15 (.func (.func g) #[] #[get fr3 s1, get fr3 s2]))
      { tmps := a3.tmps.setIfInBounds d15 (.func (.func g) #[] #[a3.tmps.getD s1 undef, a3.tmps.getD s2 undef]), defers := [{ target := .fn (.func g) #[a3.tmps.getD s1 undef, a3.tmps.getD s2 undef], args := #[] }] } := ⟨hf4.size, hf4.rel, rfl⟩
  simp only [Array.getD_eq_getD_getElem?] at hf5
  refine wpIn_of_DW hm hE hS h7 hq hf5 hR3 fun ex fr7 st7 ρ7 e a7 w7 hq hx hf7 hR7 hran7 => ?_
  obtain ⟨t5, ht5, hq⟩ := hq
  have hcap : LRel ρ7 [get fr3 s1, get fr3 s2] [a3.tmps.getD s1 undef, a3.tmps.getD s2 undef] := LRel.cons ((hf3.rel s1).mono hran7.le) (LRel.cons ((hf3.rel s2).mono hran7.le) (LRel.nil _))
  -- the closure, and what is left behind it
  have last : ∀ (u u' : FrameMode) (t5' : Value), Catch u t5' u' → VRel ρ7 t5 t5' → LeavesIn Fence.wide n P fn a7.tmps (CPost B ρ w st fun o2 st2 => o2 = o ∧ st2 = st') a7.defers u w7 := by
    intro u u' t5' hu ht
    obtain ⟨m, exY, frY, stY, e1, ⟨rfl, rfl⟩, v, hv, rfl⟩ := hq
    rw [hf7.defers]
    refine leavesIn_cons (f := g) (args := #[a3.tmps.getD s1 undef, a3.tmps.getD s2 undef]) hu.run (by simp [Fence.wide]) (by simp [go_sem, run_callFunc hcg]) (by simp [Target.leads, Fence.wide]) ?_
    refine (closure_calls hm hE hS hfg hb hY hd5 hres hu ht ⟨m, .normal, frY, stY, e1, rfl, rfl⟩ hcap hR7).mono ?_
    rintro e u2 w8 ⟨rfl, rfl, ρ8, hR8, hran8⟩
    show LeavesIn Fence.wide n P fn a7.tmps _ [] (settle u2) w8
    rw [hu.settle]
    have hf8 : FRel [{ target := .fn (.func g) #[a3.tmps[s1]?.getD undef, a3.tmps[s2]?.getD undef], args := #[] }] ρ8 fn.ntmps fr7 a7 := hf7.mono hran8.le
    obtain ⟨v', q1, q2⟩ := results_ok hrs hf8 hR8 hv
    exact ⟨v', q1, v, stY, ρ8, ⟨rfl, rfl⟩, q2, hR8, (hran13.trans hran7).trans hran8⟩
  rcases ht5 with ⟨rfl, rfl⟩ | ⟨t, v, rfl, rfl⟩
  · cases e <;> simp only [XRel] at hx
    exact last _ _ _ Catch.idle (.flat rfl rfl)
  · cases e <;> simp only [XRel] at hx
    obtain ⟨v', hv', rfl⟩ := hx
    obtain ⟨v2, rfl, hv2⟩ : ∃ v2, v' = .iface t v2 ∧ VRel ρ7 v v2 := by
      cases hv' with
      | flat h => simp [Ai.flat] at h
      | iface h => exact ⟨_, rfl, h⟩
    exact last _ _ _ (Catch.caught t v2) (.iface hv2)
end Go.Ai
/- From the reading of plain data (numbers, bools, slices, structs, arrays) to canonical memory. -/
namespace Go.Ai
set_option linter.unusedSimpArgs false
set_option linter.unusedVariables false

/-- What a cell holds. -/
inductive Sh where
  | int (k : IntKind)
  | bool
  | slice (es : List Sh)

/-- How many bytes an element has at least. -/
def szB : List Sh → Nat
  | [.int .i64] => 8
  | [.slice _] => 24
  | _ => 1
theorem szB_pos (es : List Sh) : 1 ≤ szB es := by
  unfold szB; split <;> omega
def shapesFs (P : Program) (sh : TypeId → Option (List Sh)) : Nat → List Field → Option (List Sh)
  | _, [] => some []
  | off, f :: fs => match sh f.type with
    | some m => if f.offset = off ∧ P.cellsOf f.type = m.length then (shapesFs P sh (off + m.length) fs).map (m ++ ·) else none
    | none => none
/-- The cells of a plain type. -/
def shapes (P : Program) : Nat → TypeId → Option (List Sh)
  | 0, _ => none
  | d + 1, t => match P.underlying t with
    | some (.int k) => some [.int k]
    | some .bool => some [.bool]
    | some (.slice e) => match shapes P d e with
      | some es => if P.cellsOf e = es.length ∧ 0 < es.length ∧ szB es ≤ P.bytesOf e then some [.slice es] else none
      | none => none
    | some (.struct fs) => match shapesFs P (shapes P d) 0 fs.toList with
      | some l => if P.cellsOf t = l.length then some l else none
      | none => none
    | some (.array n e) => match shapes P d e with
      | some es => if P.cellsOf e = es.length ∧ P.cellsOf t = n * es.length then some ((List.replicate n es).flatten) else none
      | none => none
    | _ => none

inductive Fits (h : List O) : Sh → Value → Prop
  | int {k n} : (Lit.int k n).wf = true → Fits h (.int k) (.int k n)
  | bool {b} : Fits h .bool (.bool b)
  | slice {es a n c} (b o : Nat) (vs : Nat → List Value) : n * szB es ≤ reachBytes ∧ n ≤ c ∧ (∀ b' o', a = some ⟨b', o', none⟩ → ∀ k, tagOk h k b' = true) → (0 < n → a = some ⟨b, o, none⟩) → (∀ i, i < n → rdN h b (o + i * es.length) es.length = some (vs i)) →
      (∀ (i j : Nat) (s : Sh) (v : Value), i < n → es[j]? = some s → (vs i)[j]? = some v → Fits h s v) → Fits h (.slice es) (.slice a n c)
theorem tagOk_ext {h h' : List O} (e : Ext h h') {k b : Nat} (ht : tagOk h k b = true) : tagOk h' k b = true := by
  obtain ⟨x, rfl⟩ := e
  unfold tagOk at ht ⊢
  cases hb : h[b]? with
  | none => rw [hb] at ht; simp at ht
  | some y => rw [List.getElem?_append_left (List.getElem?_eq_some_iff.1 hb).1, hb]; rw [hb] at ht; exact ht
theorem Fits.ext {h h' : List O} (k : Ext h h') {s : Sh} {v : Value} (hf : Fits h s v) : Fits h' s v := by
  induction hf with
  | int hw => exact .int hw
  | bool => exact .bool
  | slice b o vs h1 h2 h3 _ ih => exact .slice b o vs ⟨h1.1, h1.2.1, fun b' o' ha j => tagOk_ext k (h1.2.2 b' o' ha j)⟩ h2 (fun i hi => k.rdN (h3 i hi)) ih
def FitsL (h : List O) (shs : List Sh) (cs : List Value) : Prop := cs.length = shs.length ∧ ∀ (j : Nat) s v, shs[j]? = some s → cs[j]? = some v → Fits h s v
theorem FitsL.ext {h h' : List O} (k : Ext h h') {shs : List Sh} {cs : List Value} (hf : FitsL h shs cs) : FitsL h' shs cs := ⟨hf.1, fun j s v h1 h2 => (hf.2 j s v h1 h2).ext k⟩
theorem FitsL.nil (h : List O) : FitsL h [] [] := ⟨rfl, fun j s v h1 => by simp at h1⟩
theorem FitsL.append {h : List O} {s1 s2 : List Sh} {c1 c2 : List Value} (h1 : FitsL h s1 c1) (h2 : FitsL h s2 c2) : FitsL h (s1 ++ s2) (c1 ++ c2) := by
  refine ⟨by simp [h1.1, h2.1], fun j s v hs hv => ?_⟩
  by_cases hj : j < s1.length
  · rw [List.getElem?_append_left hj] at hs
    rw [List.getElem?_append_left (by have := h1.1; omega)] at hv
    exact h1.2 j s v hs hv
  · rw [List.getElem?_append_right (by omega)] at hs
    rw [List.getElem?_append_right (by have := h1.1; omega), h1.1] at hv
    exact h2.2 _ s v hs hv

/-- Cells of the machine have canonical ones. -/
def Canon (w : World) (shs : List Sh) (cs : List Value) : Prop :=
  ∀ (ρ : RM) (st : St), SRel w.heap.size ρ w st → ∃ ρ' l cs0, ρ.le ρ' ∧ SRel w.heap.size ρ' w ⟨st.h ++ l, st.fl⟩ ∧ LRel ρ' cs0 cs ∧ FitsL (st.h ++ l) shs cs0
theorem Canon.nil (w : World) : Canon w [] [] := fun ρ st h => ⟨ρ, [], [], RM.le_refl ρ, by simpa using h, LRel.nil ρ, FitsL.nil _⟩
theorem Canon.append {w : World} {s1 s2 : List Sh} {c1 c2 : List Value} (h1 : Canon w s1 c1) (h2 : Canon w s2 c2) : Canon w (s1 ++ s2) (c1 ++ c2) := by
  intro ρ st h
  obtain ⟨ρ1, l1, x1, a1, a2, a3, a4⟩ := h1 ρ st h
  obtain ⟨ρ2, l2, x2, b1, b2, b3, b4⟩ := h2 ρ1 ⟨st.h ++ l1, st.fl⟩ a2
  refine ⟨ρ2, l1 ++ l2, x1 ++ x2, RM.le_trans a1 b1, by rw [← List.append_assoc]; exact b2, (a3.mono b1).append b3, ?_⟩
  rw [← List.append_assoc]
  exact (a4.ext (Ext.snoc _ _)).append b4
theorem Canon.flat {w : World} {s : Sh} {v : Value} (hv : Ai.flat v = true) (he : isE v = false) (hf : ∀ h, Fits h s v) : Canon w [s] [v] := fun ρ st h =>
  ⟨ρ, [], [v], RM.le_refl ρ, by simpa using h, LRel.cons (.flat hv he) (LRel.nil ρ), ⟨rfl, fun j s' v' h1 h2 => by
    match j with
    | 0 => simp at h1 h2; subst h1 h2; exact hf _
    | j + 1 => simp at h1⟩⟩
theorem Canon.rep {w : World} {es : List Sh} {c : Nat → List Value} : ∀ n, (∀ i, i < n → Canon w es (c i)) → Canon w ((List.replicate n es).flatten) ((List.range n).flatMap c) := by
  intro n
  induction n with
  | zero => intro _; exact Canon.nil w
  | succ n ih =>
    intro h
    rw [List.range_succ, List.flatMap_append, List.replicate_succ', List.flatten_append]
    simp only [List.flatMap_cons, List.flatMap_nil, List.append_nil, List.flatten_cons, List.flatten_nil]
    exact (ih fun i hi => h i (by omega)).append (h n (by omega))

theorem cell_heap {w : World} {a : Addr} {v : Value} (h : w.cell? a = some v) : ∃ c e fz, w.heap[a.block]? = some (.cells c e fz) ∧ a.spot = none ∧ c[a.off]? = some v := by
  unfold World.cell? at h
  split at h
  · rename_i c e fz hc
    split at h
    · cases h
    · rename_i hs
      exact ⟨c, e, fz, hc, by simpa using hs, h⟩
  · cases h
theorem cells_heap {w : World} {base : Nat} {a : Addr} {n : Nat} {cs : List Value} (h : w.cells? base a n = some cs) (hn : 0 < n) :
    cs.length = n ∧ ∃ c e fz, w.heap[a.block]? = some (.cells c e fz) ∧ a.spot = none ∧ ∀ j, j < n → c[a.off + j]? = cs[j]? := by
  unfold World.cells? at h
  split at h
  · have hl := mapM_some_length h
    simp at hl
    have h0 := mapM_some_get h 0 0 (by simp [hn])
    have hc0 : (0 : Nat) < cs.length := by omega
    rw [show a.add 0 = a from by simp [Addr.add], List.getElem?_eq_getElem hc0] at h0
    obtain ⟨c, e, fz, h1, h2, h3⟩ := cell_heap h0
    refine ⟨hl, c, e, fz, h1, h2, fun j hj => ?_⟩
    have hj' := mapM_some_get h j j (by simp [hj])
    rw [List.getElem?_eq_getElem (by omega)] at hj' ⊢
    obtain ⟨c', e', fz', k1, k2, k3⟩ := cell_heap hj'
    have hb : (a.add j).block = a.block := by unfold Addr.add; split <;> rfl
    have ho : (a.add j).off = a.off + j := by unfold Addr.add; split <;> simp_all
    rw [hb, h1] at k1
    cases k1
    rw [ho] at k3
    exact k3
  · cases h

theorem CellsRel_of {ρ : RM} {c0 : List Value} {cs : Array Value} {sh : Nat} {c : List Value} (hr : LRel ρ c0 c) (hc : ∀ j, j < c.length → cs[sh + j]? = c[j]?) : CellsRel ρ c0 cs sh := fun i v hv => by
  obtain ⟨b, hb, hvb⟩ := hr.get hv
  have hi : i < c.length := (List.getElem?_eq_some_iff.1 hb).1
  exact ⟨b, by rw [hc i hi]; exact hb, hvb⟩

/-- A block that is read. -/
theorem SRel.addRead {w : World} {ρ : RM} {st : St} (hS : SRel w.heap.size ρ w st) {c0 c : List Value} {cs : Array Value} {e e' : TypeId} {fz : Nat × Nat} {b o : Nat} (hb : w.heap[b]? = some (.cells cs e' fz)) (hr : LRel ρ c0 c) (hc : ∀ j, j < c.length → cs[o + j]? = c[j]?) :
    SRel w.heap.size (upd ρ st.h.length ⟨b, o, 0, 0⟩) w ⟨st.h ++ [.cells c0 e none], st.fl⟩ ∧ ρ.le (upd ρ st.h.length ⟨b, o, 0, 0⟩) := by
  have hno : ρ st.h.length = none := hS.full.dom
  have hle : ρ.le (upd ρ st.h.length ⟨b, o, 0, 0⟩) := fun id l h => by
    unfold upd
    split
    · rename_i heq; rw [heq, hno] at h; cases h
    · exact h
  have hcase : ∀ id l, upd ρ st.h.length ⟨b, o, 0, 0⟩ id = some l → (id = st.h.length ∧ l = ⟨b, o, 0, 0⟩) ∨ (id < st.h.length ∧ ρ id = some l) := fun id l h => by
    unfold upd at h
    split at h
    · rename_i heq; cases h; exact .inl ⟨heq, rfl⟩
    · exact .inr ⟨hS.full id l h, h⟩
  have hold : ∀ id, id < st.h.length → hp (st.h ++ [.cells c0 e none]) id = hp st.h id := fun id h => by simp [hp, List.getD, List.getElem?_append_left h]
  have hnew : hp (st.h ++ [.cells c0 e none]) st.h.length = .cells c0 e none := by simp [hp, List.getD]
  have hblt : b < w.heap.size := (Array.getElem?_eq_some_iff.1 hb).1
  refine ⟨⟨⟨Nat.le_refl _, fun id l h => ?_, fun id l h hr' => ?_, fun id l h hr' => ?_, fun i j li lj hij hi hj hbb hB => ?_⟩, fun id l h => ?_⟩, hle⟩
  · rcases hcase id l h with ⟨rfl, rfl⟩ | ⟨h1, h2⟩
    · show CRel _ w _ (hp (st.h ++ [.cells c0 e none]) st.h.length)
      rw [hnew]
      exact ⟨cs, e', fz, hb, (CellsRel_of hr hc).mono hle, (fun s hs => by cases hs), fun _ => rfl⟩
    · show CRel _ w l (hp (st.h ++ [.cells c0 e none]) id)
      rw [hold id h1]
      exact (hS.mem.rel id l h2).mono hle
  · rcases hcase id l h with ⟨rfl, rfl⟩ | ⟨h1, h2⟩
    · exact hblt
    · have : hp (st.h ++ [.cells c0 e none]) id = hp st.h id := hold id h1
      exact hS.mem.ro id l h2 (by rw [← this]; exact hr')
  · rcases hcase id l h with ⟨rfl, rfl⟩ | ⟨h1, h2⟩
    · have h3 : (hp (st.h ++ [.cells c0 e none]) st.h.length).ro = false := hr'
      rw [hnew] at h3
      simp [O.ro] at h3
    · have : hp (st.h ++ [.cells c0 e none]) id = hp st.h id := hold id h1
      exact hS.mem.own id l h2 (by rw [← this]; exact hr')
  · have lt : ∀ id l, upd ρ st.h.length ⟨b, o, 0, 0⟩ id = some l → (∃ o', hp (st.h ++ [.cells c0 e none]) id = o' ∧ o'.ro = true) ∨ (id < st.h.length ∧ ρ id = some l) := fun id l h => by
      rcases hcase id l h with ⟨rfl, rfl⟩ | h
      · exact .inl ⟨_, hnew, rfl⟩
      · exact .inr h
    rcases hcase i li hi with ⟨rfl, rfl⟩ | ⟨h1, h2⟩
    · exact absurd hB (by simp; omega)
    · rcases hcase j lj hj with ⟨rfl, rfl⟩ | ⟨k1, k2⟩
      · have : li.b = b := hbb
        omega
      · show hp (st.h ++ [.cells c0 e none]) i = .dead
        rw [hold i h1]
        exact hS.mem.sep i j li lj hij h2 k2 hbb hB
  · rcases hcase id l h with ⟨rfl, rfl⟩ | ⟨h1, h2⟩
    · simp
    · simp; omega

theorem flatMap_len {α : Type} {c : Nat → List α} {sz : Nat} : ∀ n, (∀ i, i < n → (c i).length = sz) → ((List.range n).flatMap c).length = n * sz := by
  intro n
  induction n with
  | zero => intro _; simp
  | succ n ih =>
    intro h
    rw [List.range_succ, List.flatMap_append, List.length_append, ih fun i hi => h i (by omega)]
    simp [h n (by omega), Nat.add_mul]
theorem flatMap_get {α : Type} {c : Nat → List α} {sz : Nat} : ∀ n, (∀ i, i < n → (c i).length = sz) → ∀ i j, i < n → j < sz → ((List.range n).flatMap c)[i * sz + j]? = (c i)[j]? := by
  intro n
  induction n with
  | zero => intro _ i j hi; omega
  | succ n ih =>
    intro h i j hi hj
    have hl := flatMap_len n fun i hi => h i (by omega)
    rw [List.range_succ, List.flatMap_append]
    by_cases hin : i < n
    · have : i * sz + j < n * sz := by
        have : (i + 1) * sz ≤ n * sz := Nat.mul_le_mul_right sz (by omega)
        rw [Nat.add_mul] at this
        omega
      rw [List.getElem?_append_left (by rw [hl]; exact this)]
      exact ih (fun i hi => h i (by omega)) i j hin hj
    · have : i = n := by omega
      subst this
      rw [List.getElem?_append_right (by rw [hl]; omega), hl]
      simp
theorem split_index {n sz k : Nat} (hk : k < n * sz) : ∃ i j, k = i * sz + j ∧ i < n ∧ j < sz := by
  have hsz : 0 < sz := by
    rcases Nat.eq_zero_or_pos sz with h | h
    · subst h; simp at hk
    · exact h
  refine ⟨k / sz, k % sz, by rw [Nat.mul_comm]; exact (Nat.div_add_mod k sz).symm, ?_, Nat.mod_lt _ hsz⟩
  rw [Nat.div_lt_iff_lt_mul hsz]; exact hk
theorem repl_flat {α : Type} (n : Nat) (es : List α) : (List.replicate n es).flatten = (List.range n).flatMap fun _ => es := by
  induction n with
  | zero => rfl
  | succ n ih =>
    rw [List.replicate_succ', List.flatten_append, ih, List.range_succ, List.flatMap_append]
    simp

section
variable {H : Type} {enc : TypeId × Value → H} {P : Program} {w : World}

theorem canon_slice {es : List Sh} (hes : 0 < es.length) {a : Addr} {len cap : Nat} (hlc : len ≤ cap) (hlen : len * szB es ≤ reachBytes) {ci : Nat → List Value} (hc : ∀ i, i < len → w.cells? 0 (a.add (i * es.length)) es.length = some (ci i)) (hcan : ∀ i, i < len → Canon w es (ci i))
    (hcap : 0 < cap → ∃ cs, w.cells? 0 a es.length = some cs) : Canon w [.slice es] [.slice (some a) len cap] := by
  intro ρ st hS
  by_cases h0 : cap = 0
  · have : len = 0 := by omega
    subst h0 this
    exact ⟨ρ, [], [emptyS], RM.le_refl ρ, by simpa using hS, LRel.cons (.empty a) (LRel.nil ρ), ⟨rfl, fun j s v h1 h2 => by
      match j with
      | 0 => simp at h1 h2; subst h1 h2; exact .slice 0 0 (fun _ => []) ⟨by simp, Nat.le_refl _, fun b' o' h => by cases h⟩ (fun h => absurd h (Nat.lt_irrefl _)) (fun i hi => absurd hi (Nat.not_lt_zero _)) (fun i j s v hi => absurd hi (Nat.not_lt_zero _))
      | j + 1 => simp at h1⟩⟩
  · obtain ⟨cs0, hi0⟩ := hcap (by omega)
    obtain ⟨_, cb, eb, fzb, hb0, hsp, _⟩ := cells_heap hi0 hes
    have hblk : ∀ k, (a.add k).block = a.block := fun k => by unfold Addr.add; split <;> rfl
    have hoff : ∀ k, (a.add k).off = a.off + k := fun k => by unfold Addr.add; split <;> simp_all
    obtain ⟨ρ1, l1, c0, a1, a2, a3, a4⟩ := Canon.rep len hcan ρ st hS
    have hcl : ∀ i, i < len → (ci i).length = es.length := fun i hi => (cells_heap (hc i hi) hes).1
    have hfl := flatMap_len len hcl
    have hmem : ∀ j, j < ((List.range len).flatMap ci).length → cb[a.off + j]? = ((List.range len).flatMap ci)[j]? := fun k hk => by
      rw [hfl] at hk
      obtain ⟨i, j, rfl, hi, hj⟩ := split_index hk
      rw [flatMap_get len hcl i j hi hj]
      obtain ⟨_, c2, e2, fz2, k1, _, k3⟩ := cells_heap (hc i hi) hes
      rw [hblk, hb0] at k1
      cases k1
      have := k3 j hj
      rw [hoff, Nat.add_assoc] at this
      exact this
    obtain ⟨hS2, hle2⟩ := a2.addRead (e := 0) hb0 a3 hmem
    have hc0 : c0.length = len * es.length := by rw [a3.1, hfl]
    refine ⟨upd ρ1 (st.h ++ l1).length ⟨a.block, a.off, 0, 0⟩, l1 ++ [.cells c0 0 none], [.slice (some ⟨(st.h ++ l1).length, 0, none⟩) len cap], RM.le_trans a1 hle2, by rw [← List.append_assoc]; exact hS2, LRel.cons ?_ (LRel.nil _), ⟨rfl, fun j s v h1 h2 => ?_⟩⟩
    · have ha : a = ⟨a.block, a.off, none⟩ := by rw [← hsp]
      rw [ha]
      exact .slice (l := ⟨a.block, a.off, 0, 0⟩) (by simp [upd]) (Nat.le_refl _) (.inl rfl) hlc (.inl rfl)
    · match j with
      | 0 =>
        simp at h1 h2
        subst h1 h2
        rw [← List.append_assoc]
        have hrd : ∀ i, i < len → rdN (st.h ++ l1 ++ [.cells c0 0 none]) (st.h ++ l1).length (0 + i * es.length) es.length = some ((c0.drop (i * es.length)).take es.length) := fun i hi => by
          have : (i + 1) * es.length ≤ len * es.length := Nat.mul_le_mul_right _ (by omega)
          rw [Nat.add_mul] at this
          rw [rdN_append_right0, rdN_cells, Nat.zero_add, if_pos (by omega)]
        have := Fits.slice (h := st.h ++ l1 ++ [.cells c0 0 none]) (es := es) (a := some ⟨(st.h ++ l1).length, 0, none⟩) (n := len) (c := cap) (st.h ++ l1).length 0 (fun i => (c0.drop (i * es.length)).take es.length) ⟨hlen, hlc, fun b' o' hb' k => by cases hb'; simp [tagOk]⟩ (fun _ => rfl) hrd (fun i j s v hi h1 h2 => by
          have hj : j < es.length := (List.getElem?_eq_some_iff.1 h1).1
          rw [List.getElem?_take_of_lt hj, List.getElem?_drop] at h2
          refine (a4.2 (i * es.length + j) s v ?_ h2).ext (Ext.snoc _ _)
          rw [repl_flat, flatMap_get len (fun _ _ => rfl) i j hi hj]
          exact h1)
        simpa using this
      | j + 1 => simp at h1

theorem canon_fields {d : Nat} {sh : TypeId → Option (List Sh)} {cs : List Value} : ∀ (fs : List Field) (off : Nat) (shs : List Sh), shapesFs P sh off fs = some shs → cs.length = off + shs.length →
    (∀ f ∈ fs, ∀ m, sh f.type = some m → Canon w m ((cs.drop f.offset).take (P.cellsOf f.type))) → Canon w shs (cs.drop off) := by
  intro fs
  induction fs with
  | nil =>
    intro off shs hsh hl _
    simp only [shapesFs, Option.some.injEq] at hsh
    subst hsh
    rw [List.drop_of_length_le (by simp at hl; omega)]
    exact Canon.nil w
  | cons f fs ih =>
    intro off shs hsh hl hf
    simp only [shapesFs] at hsh
    split at hsh
    · rename_i m hm
      split at hsh
      · rename_i hoff
        obtain ⟨rfl, hce⟩ := hoff
        simp only [Option.map_eq_some_iff] at hsh
        obtain ⟨s2, h2, rfl⟩ := hsh
        rw [List.length_append] at hl
        have h1 := hf f (by simp) m hm
        rw [hce] at h1
        have h3 := ih _ _ h2 (by omega) fun g hg => hf g (by simp [hg])
        have e : cs.drop f.offset = (cs.drop f.offset).take m.length ++ cs.drop (f.offset + m.length) := by
          rw [← List.drop_drop, List.take_append_drop]
        rw [e]
        exact h1.append h3
      · cases hsh
    · cases hsh

theorem canon : ∀ (d : Nat) (fuel : Nat) (t : TypeId) (cs : List Value) (x : DataW H × List MemPlace) (shs : List Sh), shapes P d t = some shs → DataW.trod enc P w 0 (fun _ => true) true fuel t cs = some x →
    (∀ n ∈ x.1.weights P t, n ≤ reachBytes) → Canon w shs cs := by
  intro d
  induction d with
  | zero => intro fuel t cs x shs h; simp [shapes] at h
  | succ d ih =>
    intro fuel t cs x shs hsh hx hwt
    simp only [shapes] at hsh
    split at hsh
    · rename_i k ht
      obtain rfl := Option.some.inj hsh
      obtain ⟨n, rfl, rfl, hwf⟩ := DataW.trod_int ht hx
      exact Canon.flat rfl rfl fun h => .int hwf
    · rename_i ht
      obtain rfl := Option.some.inj hsh
      obtain ⟨b, rfl, rfl⟩ := DataW.trod_bool ht hx
      exact Canon.flat rfl rfl fun h => .bool
    · rename_i e ht
      split at hsh
      · rename_i es hes
        split at hsh
        · rename_i hcond
          obtain rfl := Option.some.inj hsh
          obtain ⟨hce, hpos, hby⟩ := hcond
          rcases DataW.trod_slice ht hx with ⟨rfl, rfl⟩ | ⟨a, len, cap, elems, rest, n, rfl, rfl, rfl, _, hlc, _, hel, hi, hspare, _⟩
          · exact Canon.flat rfl rfl fun h => .slice 0 0 (fun _ => []) ⟨by simp, Nat.le_refl _, fun b' o' h => by cases h⟩ (fun h => absurd h (Nat.lt_irrefl _)) (fun i hi => absurd hi (Nat.not_lt_zero _)) (fun i j s v hi => absurd hi (Nat.not_lt_zero _))
          · obtain ⟨hr1, hr2⟩ := hspare rfl
            rw [hce] at hi hr2
            have hwt1 : (elems.length + rest.length) * P.bytesOf e ≤ reachBytes := by
              have := hwt ((elems.length + rest.length) * P.bytesOf e) (by simp [DataW.weights, ht])
              exact this
            have hlen : len * szB es ≤ reachBytes := by
              have h1 : (elems.length + rest.length) * szB es ≤ (elems.length + rest.length) * P.bytesOf e := Nat.mul_le_mul_left _ hby
              have h2 : len * szB es ≤ (elems.length + rest.length) * szB es := Nat.mul_le_mul_right _ (by omega)
              omega
            have hsome : ∀ i, i < len → ∃ c y, w.cells? 0 (a.add (i * es.length)) es.length = some c ∧ DataW.trod enc P w 0 (fun _ => true) true n e c = some y ∧ y ∈ elems := fun i hil => by
              have := hi i hil
              rw [List.getElem?_eq_getElem (by omega)] at this
              simp only [Option.bind_eq_some_iff] at this
              obtain ⟨c, h1, h2⟩ := this
              exact ⟨c, _, h1, h2, List.getElem_mem _⟩
            refine canon_slice hpos hlc hlen (ci := fun i => if hil : i < len then (hsome i hil).choose else []) (fun i hil => ?_) (fun i hil => ?_) (fun hcap => ?_)
            · simp only [hil, dif_pos]
              obtain ⟨y, h1, _⟩ := (hsome i hil).choose_spec
              exact h1
            · simp only [hil, dif_pos]
              obtain ⟨y, h1, h2, h3⟩ := (hsome i hil).choose_spec
              refine ih n e _ y es hes h2 fun m hm => hwt m ?_
              simp only [DataW.weights, ht, List.mem_cons, List.mem_append]
              refine .inr (.inl ?_)
              have key : ∀ (l : List (DataW H × List MemPlace)), y ∈ l → m ∈ DataW.weightsAll P e (l.map (·.1)) := by
                intro l
                induction l with
                | nil => intro h; cases h
                | cons z l ihl =>
                  intro h
                  simp only [List.map_cons, DataW.weightsAll, List.mem_append]
                  rcases List.mem_cons.1 h with rfl | h
                  · exact .inl hm
                  · exact .inr (ihl h)
              exact key elems h3
            · rcases Nat.eq_zero_or_pos len with h0 | h0
              · subst h0
                have := hr2 0 (by omega)
                rw [List.getElem?_eq_getElem (by omega)] at this
                simp only [Option.bind_eq_some_iff] at this
                obtain ⟨c, h1, _⟩ := this
                exact ⟨c, by simpa [Addr.add] using h1⟩
              · obtain ⟨c, _, h1, _⟩ := hsome 0 h0
                exact ⟨c, by simpa [Addr.add] using h1⟩
        · cases hsh
      · cases hsh
    · rename_i fs ht
      split at hsh
      · rename_i l hl
        split at hsh
        · rename_i hcl
          obtain rfl := Option.some.inj hsh
          obtain ⟨xs, n, rfl, rfl, hlen, hxs, hf⟩ := DataW.trod_struct ht hx
          have := canon_fields (w := w) (P := P) (d := d) (sh := shapes P d) (cs := cs) fs.toList 0 l hl (by omega) fun f hfm m hm => by
            obtain ⟨i, hi, hfi⟩ := List.mem_iff_getElem.1 hfm
            have hi' : i < fs.size := by simpa using hi
            have h1 := hf i f (by rw [Array.getElem?_eq_getElem hi']; simpa using hfi)
            rw [List.getElem?_eq_getElem (by omega)] at h1
            refine ih n f.type _ _ m hm h1 fun k hk => hwt k ?_
            simp only [DataW.weights, ht]
            refine DataW.weights_mem_each (j := i) (t := f.type) (d := (xs[i]).1) ?_ ?_ k hk
            · rw [List.getElem?_map, List.getElem?_eq_getElem hi, hfi]; rfl
            · simp [List.getElem?_eq_getElem (show i < xs.length by omega)]
          simpa using this
        · cases hsh
      · cases hsh
    · rename_i n e ht
      split at hsh
      · rename_i es hes
        split at hsh
        · rename_i hcond
          obtain rfl := Option.some.inj hsh
          obtain ⟨hce, hct⟩ := hcond
          cases fuel with
          | zero => simp [DataW.trod] at hx
          | succ fuel =>
            unfold DataW.trod at hx
            rw [ht] at hx
            have hx' : (if cs.length = P.cellsOf t then ((List.range n).mapM fun i => DataW.trod enc P w 0 (fun _ => true) true fuel e ((cs.drop (i * P.cellsOf e)).take (P.cellsOf e))).map fun xs => (DataW.agg (xs.map (·.1)), xs.flatMap (·.2)) else none) = some x := by
              revert hx
              split <;> simp_all
            split at hx'
            · rename_i hcl
              simp only [Option.map_eq_some_iff] at hx'
              obtain ⟨xs, hxs, rfl⟩ := hx'
              have hxl := mapM_some_length hxs
              simp at hxl
              rw [hce] at hxs
              have hlen : cs.length = n * es.length := by omega
              have hpart : ∀ i, i < n → Canon w es ((cs.drop (i * es.length)).take es.length) := fun i hi => by
                have h1 := mapM_some_get hxs i i (by simp [hi])
                rw [List.getElem?_eq_getElem (by omega)] at h1
                refine ih fuel e _ _ es hes h1 fun k hk => hwt k ?_
                simp only [DataW.weights, ht]
                have key : ∀ (l : List (DataW H × List MemPlace)) y, y ∈ l → k ∈ y.1.weights P e → k ∈ DataW.weightsAll P e (l.map (·.1)) := by
                  intro l
                  induction l with
                  | nil => intro y h; cases h
                  | cons z l ihl =>
                    intro y h hm
                    simp only [List.map_cons, DataW.weightsAll, List.mem_append]
                    rcases List.mem_cons.1 h with rfl | h
                    · exact .inl hm
                    · exact .inr (ihl y h hm)
                exact key xs _ (List.getElem_mem _) hk
              have := Canon.rep n hpart
              have e2 : (List.range n).flatMap (fun i => (cs.drop (i * es.length)).take es.length) = cs := by
                have hpl : ∀ i, i < n → ((cs.drop (i * es.length)).take es.length).length = es.length := fun i hi => by
                  have : (i + 1) * es.length ≤ n * es.length := Nat.mul_le_mul_right _ (by omega)
                  rw [Nat.add_mul] at this
                  simp; omega
                apply List.ext_getElem?
                intro k
                by_cases hk : k < n * es.length
                · obtain ⟨i, j, rfl, hi, hj⟩ := split_index hk
                  rw [flatMap_get n hpl i j hi hj, List.getElem?_take_of_lt hj, List.getElem?_drop]
                · rw [List.getElem?_eq_none (by rw [flatMap_len n hpl]; omega), List.getElem?_eq_none (by omega)]
              rw [e2] at this
              exact this
            · cases hx'
        · cases hsh
      · cases hsh
    · cases hsh
end
end Go.Ai
/- What is read before a call is read behind it. -/
namespace Go.Ai
set_option linter.unusedSimpArgs false
set_option linter.unusedVariables false
open Go.ChangeShapes
section
variable {H : Type} {enc : TypeId × Value → H} {P : Program} {w : World}

theorem trod_sp {sp : Nat → Bool} : ∀ (d : Nat) (fuel : Nat) (t : TypeId) (cs : List Value) (x : DataW H × List MemPlace) (shs : List Sh), shapes P d t = some shs → DataW.trod enc P w 0 (fun _ => true) true fuel t cs = some x →
    (∀ p ∈ x.2, sp p.block = true) → DataW.trod enc P w 0 sp true fuel t cs = some x := by
  intro d
  induction d with
  | zero => intro fuel t cs x shs h; simp [shapes] at h
  | succ d ih =>
    intro fuel t cs x shs hsh hx hsp
    cases fuel with
    | zero => simp [DataW.trod] at hx
    | succ n =>
    simp only [shapes] at hsh
    split at hsh
    · rename_i k ht
      obtain ⟨m, rfl, rfl, hwf⟩ := DataW.trod_int ht hx
      simp [DataW.trod, ht, hwf]
    · rename_i ht
      obtain ⟨b, rfl, rfl⟩ := DataW.trod_bool ht hx
      simp [DataW.trod, ht]
    · rename_i e ht
      split at hsh
      · rename_i es hes
        split at hsh
        · rename_i hcond
          obtain ⟨hce, hpos, hby⟩ := hcond
          rcases DataW.trod_slice ht hx with ⟨rfl, rfl⟩ | ⟨a, len, cap, elems, rest, n', hn, rfl, rfl, _, hlc, hcm, hel, hi, hspare, _⟩
          · simp [DataW.trod, ht]
          · obtain rfl : n = n' := by omega
            obtain ⟨hr1, hr2⟩ := hspare rfl
            simp only [List.mem_append, List.mem_flatMap] at hsp
            have hel' : ∀ i, i < len → ((w.cells? 0 (a.add (i * P.cellsOf e)) (P.cellsOf e)).bind (DataW.trod enc P w 0 sp true n e)) = elems[i]? := fun i hil => by
              have h1 := hi i hil
              rw [List.getElem?_eq_getElem (by omega)] at h1 ⊢
              simp only [Option.bind_eq_some_iff] at h1 ⊢
              obtain ⟨c, q1, q2⟩ := h1
              exact ⟨c, q1, ih n e c _ es hes q2 fun p hp => hsp p (.inr ⟨_, .inl (List.getElem_mem _), hp⟩)⟩
            have hre' : ∀ j, j < cap - len → ((w.cells? 0 (a.add ((len + j) * P.cellsOf e)) (P.cellsOf e)).bind (DataW.trod enc P w 0 sp true n e)) = rest[j]? := fun j hj => by
              have h1 := hr2 j hj
              rw [List.getElem?_eq_getElem (by omega)] at h1 ⊢
              simp only [Option.bind_eq_some_iff] at h1 ⊢
              obtain ⟨c, q1, q2⟩ := h1
              exact ⟨c, q1, ih n e c _ es hes q2 fun p hp => hsp p (.inr ⟨_, .inr (List.getElem_mem _), hp⟩)⟩
            have m1 : (List.range len).mapM (fun i => (w.cells? 0 (a.add (i * P.cellsOf e)) (P.cellsOf e)).bind (DataW.trod enc P w 0 sp true n e)) = some elems :=
              mapM_some_of_get _ _ (by simp [hel]) fun i x hix => by
                obtain ⟨h1, h2⟩ := List.getElem?_eq_some_iff.1 hix
                simp at h1 h2
                subst h2
                exact hel' i h1
            have m2 : (List.range (cap - len)).mapM (fun j => (w.cells? 0 (a.add ((len + j) * P.cellsOf e)) (P.cellsOf e)).bind (DataW.trod enc P w 0 sp true n e)) = some rest :=
              mapM_some_of_get _ _ (by simp [hr1]) fun i x hix => by
                obtain ⟨h1, h2⟩ := List.getElem?_eq_some_iff.1 hix
                simp at h1 h2
                subst h2
                exact hre' i h1
            have hsa : sp a.block = true ∨ cap - len = 0 := by
              by_cases h0 : cap - len = 0
              · exact .inr h0
              · left
                refine hsp (.cell a.block (a.off + 0)) (.inl (MemPlace.mem_row.2 ⟨0, ?_, rfl⟩))
                rw [hce]
                exact Nat.mul_pos (by omega) hpos
            simp only [DataW.trod, ht]
            rw [if_pos ⟨Nat.zero_le _, hlc, hcm⟩, m1]
            simp only [Option.bind_some]
            rcases hsa with h | h
            · rw [if_pos h, m2]; rfl
            · have : rest = [] := List.length_eq_zero_iff.1 (by omega)
              subst this
              split
              · rw [m2]; rfl
              · rfl
        · cases hsh
      · cases hsh
    · rename_i fs ht
      split at hsh
      · rename_i l hl
        obtain ⟨xs, n', hn, rfl, hlen, hxs, hf⟩ := DataW.trod_struct ht hx
        obtain rfl : n = n' := by omega
        have hsh2 : ∀ f ∈ fs.toList, ∃ m, shapes P d f.type = some m := by
          have key : ∀ (l : List Field) (off : Nat) (s : List Sh), shapesFs P (shapes P d) off l = some s → ∀ f ∈ l, ∃ m, shapes P d f.type = some m := by
            intro l
            induction l with
            | nil => intro _ _ _ f hf; cases hf
            | cons g l ihl =>
              intro off s h f hf
              simp only [shapesFs] at h
              split at h
              · rename_i m hm
                split at h
                · simp only [Option.map_eq_some_iff] at h
                  obtain ⟨s2, h2, _⟩ := h
                  rcases List.mem_cons.1 hf with rfl | hf
                  · exact ⟨m, hm⟩
                  · exact ihl _ _ h2 f hf
                · cases h
              · cases h
          exact key fs.toList 0 l hl
        have m1 : fs.toList.mapM (fun f => DataW.trod enc P w 0 sp true n f.type ((cs.drop f.offset).take (P.cellsOf f.type))) = some xs :=
          mapM_some_of_get _ _ (by simp [hxs]) fun i f hif => by
            have h1 := hf i f (by simpa using hif)
            have hil : i < fs.size := by simpa using (List.getElem?_eq_some_iff.1 hif).1
            rw [List.getElem?_eq_getElem (by omega)] at h1 ⊢
            obtain ⟨m, hm⟩ := hsh2 f (List.mem_of_getElem? hif)
            exact ih n f.type _ _ m hm h1 fun p hp => hsp p (List.mem_flatMap.2 ⟨_, List.getElem_mem _, hp⟩)
        unfold DataW.trod
        rw [ht]
        have hne : ∀ y, (if cs.length = P.cellsOf t then (fs.toList.mapM fun f => DataW.trod enc P w 0 sp true n f.type ((cs.drop f.offset).take (P.cellsOf f.type))).map fun xs => (DataW.agg (xs.map (·.1)), xs.flatMap (·.2)) else none) = some y →
            (match some (TypeDesc.struct fs), cs with
              | some (.struct fs), cs => if cs.length = P.cellsOf t then (fs.toList.mapM fun f => DataW.trod enc P w 0 sp true n f.type ((cs.drop f.offset).take (P.cellsOf f.type))).map fun xs => (DataW.agg (xs.map (·.1)), xs.flatMap (·.2)) else none
              | _, _ => none) = some y := fun y h => h
        have := hne (.agg (xs.map (·.1)), xs.flatMap (·.2)) (by rw [if_pos hlen, m1]; rfl)
        revert this
        split <;> simp_all
      · cases hsh
    · rename_i k e ht
      split at hsh
      · rename_i es hes
        have hx' : (if cs.length = P.cellsOf t then ((List.range k).mapM fun i => DataW.trod enc P w 0 (fun _ => true) true n e ((cs.drop (i * P.cellsOf e)).take (P.cellsOf e))).map fun xs => (DataW.agg (xs.map (·.1)), xs.flatMap (·.2)) else none) = some x := by
          unfold DataW.trod at hx
          rw [ht] at hx
          revert hx
          split <;> simp_all
        split at hx'
        · rename_i hcl
          simp only [Option.map_eq_some_iff] at hx'
          obtain ⟨xs, hxs, rfl⟩ := hx'
          have m1 : (List.range k).mapM (fun i => DataW.trod enc P w 0 sp true n e ((cs.drop (i * P.cellsOf e)).take (P.cellsOf e))) = some xs :=
            mapM_carry hxs fun i y hi hy h => ih n e _ y es hes h fun p hp => hsp p (List.mem_flatMap.2 ⟨y, hy, hp⟩)
          have h2 : (if cs.length = P.cellsOf t then ((List.range k).mapM fun i => DataW.trod enc P w 0 sp true n e ((cs.drop (i * P.cellsOf e)).take (P.cellsOf e))).map fun xs => (DataW.agg (xs.map (·.1)), xs.flatMap (·.2)) else none) = some (DataW.agg (xs.map (·.1)), xs.flatMap (·.2)) := by
            rw [if_pos hcl, m1]; rfl
          unfold DataW.trod
          rw [ht]
          revert h2
          split <;> simp_all
        · cases hx'
      · cases hsh
    · cases hsh

theorem Trod_behind {w' : World} {sp : Nat → Bool} {t : TypeId} {v : Value} {x : DataW H} {ps : List MemPlace} {d : Nat} {shs : List Sh} (hsh : shapes P d t = some shs) (h : DataW.Trod enc P w 0 (fun _ => true) true t v x ps)
    (hw : ∀ k, k < w.heap.size → w'.heap[k]? = w.heap[k]?) (hsp : ∀ p ∈ ps, sp p.block = true) : DataW.Trod enc P w' 0 sp true t v x ps := by
  obtain ⟨fuel, hx⟩ := h
  have h1 := trod_sp d fuel t _ (x, ps) shs hsh hx hsp
  refine ⟨fuel, DataW.trod_carry fuel t _ (x, ps) h1 fun p hp => ?_⟩
  have hlt := DataW.trod_lt fuel t _ (x, ps) hx p hp
  have := hw p.block hlt
  cases p with
  | cell b off => simp only [World.sameAt, World.cell?]; simp only [MemPlace.block] at this; rw [this]
  | map b => exact this
theorem TrodAll_behind {w' : World} {sp : Nat → Bool} {d : Nat} (hw : ∀ k, k < w.heap.size → w'.heap[k]? = w.heap[k]?) : ∀ {ts : List TypeId} {vs : List Value} {ds : List (DataW H)} {ps : List MemPlace}, (∀ t ∈ ts, ∃ shs, shapes P d t = some shs) → DataW.TrodAll enc P w 0 (fun _ => true) true ts vs ds ps →
    (∀ p ∈ ps, sp p.block = true) → DataW.TrodAll enc P w' 0 sp true ts vs ds ps := by
  intro ts
  induction ts with
  | nil =>
    intro vs ds ps _ h _
    obtain ⟨rfl, rfl, rfl⟩ := trodAll_nil h
    exact rfl
  | cons t ts ih =>
    intro vs ds ps hsh h hsp
    obtain ⟨v, vs', x, ds', p, q, rfl, rfl, rfl, h1, h2⟩ := trodAll_cons h
    obtain ⟨shs, hs⟩ := hsh t (by simp)
    exact ⟨p, q, Trod_behind hs h1 hw (fun y hy => hsp y (by simp [hy])), ih (fun u hu => hsh u (by simp [hu])) h2 (fun y hy => hsp y (by simp [hy])), rfl⟩
theorem keptBut_same {w' : World} (hos : w'.os = w.os) (hout : w'.output = w.output) (hw : ∀ k, k < w.heap.size → w'.heap[k]? = w.heap[k]?) (may : MemPlace → Prop) : w.keptBut w' may := by
  refine ⟨hos, hout, fun i hi => ?_⟩
  rw [hw i hi]
  split
  · rename_i c t fr c' t' fr' h1 h2
    rw [h1] at h2
    cases h2
    exact ⟨rfl, rfl, rfl, fun _ _ => rfl⟩
  · rename_i es clock es' clock' h1 h2
    rw [h1] at h2
    cases h2
    exact .inr ⟨rfl, rfl⟩
  · rfl
/-- What a law's contract owes: nothing below was touched, and the answer is true. -/
theorem post_law {f : Func} {s : ChangeSpec} {apart fresh handsOn again : Bool} {W W' : World} {args : Array Value} {ds gs : List (DataW H)} {before : List MemPlace} {d tb : Nat}
    (hW : DataW.Whole enc P f.params.toList s.vars apart W args.toList ds gs before) (hvars : s.vars = []) (hr : f.resultTypes = #[tb]) (htb : P.underlying tb = some .bool)
    (hfn : s.fn H (ds ++ gs) = { results := [.lit (.bool true)], args := ds })
    (hsh : ∀ t ∈ f.params.toList, ∃ shs, shapes P d t = some shs) (hos : W'.os = W.os) (hout : W'.output = W.output) (hw : ∀ k, k < W.heap.size → W'.heap[k]? = W.heap[k]?) :
    s.post enc P f apart fresh handsOn again W args (.bool true) W' := by
  obtain ⟨p, q, hA, hV, hb, hz, hnd⟩ := hW
  rw [hvars] at hV
  have hV' := hV
  obtain ⟨rfl, rfl⟩ := trodVars_none hV
  have hbp : before = p := by simpa using hb
  subst hbp
  have hres : ∀ (b : Nat) (sp : Nat → Bool) (hd : Bool), DataW.TrodAll enc P W' b sp hd f.resultTypes.toList ((Value.bool true).resultList f.resultTypes.size) [.lit (.bool true)] [] := fun b sp hd => by
    rw [hr]
    exact trodAll_mk1 (Go.RowKit.shut_bool htb true)
  have hlt : ∀ p ∈ before, p.block < W.heap.size := DataW.TrodAll.lt hA
  have hargs : ∀ sp : Nat → Bool, (∀ p ∈ before, sp p.block = true) → DataW.TrodAll enc P W' 0 sp true f.params.toList args.toList ds before := fun sp hsp => TrodAll_behind hw hsh hA hsp
  refine ⟨ds, [], before, [], before, [], ⟨before, [], hA, by rw [hvars]; exact hV', by simp, hz, hnd⟩, ?_, ?_, ?_, keptBut_same hos hout hw _, fun _ => ⟨?_, [.lit (.bool true)] ++ ds, [], before, ⟨before, [], ?_, by rw [hvars]; rfl, by simp, ?_, ?_⟩, fun p hp _ => hp⟩⟩
  · rw [hfn]; exact hres _ _ _
  · rw [hfn]; exact hargs _ fun p hp => by simpa using hlt p hp
  · rw [hvars, hfn]; rfl
  · intro j t r hj hrr
    rw [hr] at hj hrr
    match j with
    | 0 =>
      simp [Value.resultList] at hj hrr
      subst hj hrr
      exact Go.RowKit.okWide_bool_mk htb true
    | j + 1 => simp at hj
  · have := trodAll_append (hargs (fun _ => true) fun _ _ => rfl) (hres 0 (fun _ => true) true)
    simpa using this
  · intro b off hp
    have h1 := hz b off hp
    have h2 := hw b (hlt _ hp)
    simp only [World.frozen?] at h1 ⊢
    rw [h2]; exact h1
  · exact hnd

/-- A law that the run answers with true. -/
theorem law_calls {E : Env} (hm : P.follows .mixedOrders = true) (hE : ∀ B, EnvOk Fence.wide P B E) (hS : SumsKept E) {f : FuncId} {args0 args' : List Value} {ρ : RM} {W : World} {st st' : St} (h : DR E f args0 ⟨st.h, st.h.length⟩ (.ret (.bool true)) st') (ha : LRel ρ args0 args') (hR : SRel W.heap.size ρ W st) :
    Calls P f args'.toArray W fun e W' => e = .returned (.bool true) ∧ W'.os = W.os ∧ W'.output = W.output ∧ ∀ k, k < W.heap.size → W'.heap[k]? = W.heap[k]? := by
  obtain ⟨m, h⟩ := h
  refine (calls_of_exec hm (hE W.heap.size) hS h rfl ha (hR.fl _)).mono fun e W' hp => ?_
  cases e with
  | returned v' =>
    obtain ⟨v, st2, ρ', ⟨h1, _⟩, h2, _, h4⟩ := hp
    obtain rfl := Out.ret.inj h1
    obtain rfl := h2.bool
    exact ⟨rfl, h4.os, h4.output, fun k hk => h4.below k hk⟩
  | panicked chain => obtain ⟨v, v', st2, ρ', ⟨h1, _⟩, _⟩ := hp; cases h1
  | outgrown => exact hp.elim

theorem ints_of {h : List O} {v : Value} (hf : Fits h (.slice [.int .i64]) v) : ∃ xs, Ints h v xs := by
  cases hf with
  | slice b o vs hn ha hr hv =>
    rename_i a n c
    have key : ∀ i, i < n → ∃ x, vs i = [.int .i64 x] ∧ I64 x := fun i hi => by
      have h1 := hr i hi
      have hl : (vs i).length = 1 := by
        unfold rdN at h1
        split at h1
        · split at h1
          · have := Option.some.inj h1
            rw [← this]
            simp at *
            omega
          · cases h1
        · cases h1
      obtain ⟨x, hx⟩ := List.length_eq_one_iff.1 hl
      have h2 := hv i 0 (.int .i64) x hi rfl (by rw [hx]; rfl)
      cases h2 with
      | int hw =>
        rename_i y
        refine ⟨y, hx, ?_⟩
        have : -9223372036854775808 ≤ y ∧ y ≤ 9223372036854775807 := by simpa [Lit.wf, IntKind.min, IntKind.max, IntKind.signed, IntKind.bits] using hw
        exact this
    refine ⟨(List.range n).map fun i => if hi : i < n then (key i hi).choose else 0, a, b, o, c, by simp, fun h0 => ha (by simpa using h0), fun i hi => ?_, fun i => ?_, by have h0 := hn.1; simp [reachBytes, szB] at h0 ⊢; omega⟩
    · simp at hi
      have hs := (key i hi).choose_spec
      have h1 := hr i hi
      rw [hs.1] at h1
      simp [nth, hi]
      unfold rdN at h1
      unfold rd
      split at h1
      · rename_i cc el own hb
        split at h1
        · have h2 := Option.some.inj h1
          simp at h2
          have h3 : (List.take 1 (List.drop (o + i) cc))[0]? = some (Value.int .i64 (key i hi).choose) := by rw [h2]; rfl
          rw [List.getElem?_take_of_lt (by omega), List.getElem?_drop] at h3
          simpa using h3
        · cases h1
      · cases h1
    · by_cases hi : i < n
      · simp [nth, hi]
        exact (key i hi).choose_spec.2
      · simp [nth, hi, I64]
theorem mat_of {h : List O} {v : Value} (hf : Fits h (.slice [.slice [.int .i64]]) v) : ∃ A, Mat h v A := by
  cases hf with
  | slice b o vs hn ha hr hv =>
    rename_i a n c
    have key : ∀ i, i < n → ∃ x xs, vs i = [x] ∧ Ints h x xs := fun i hi => by
      have h1 := hr i hi
      have hl : (vs i).length = 1 := by
        unfold rdN at h1
        split at h1
        · split at h1
          · have := Option.some.inj h1
            rw [← this]
            simp at *
            omega
          · cases h1
        · cases h1
      obtain ⟨x, hx⟩ := List.length_eq_one_iff.1 hl
      obtain ⟨xs, hxs⟩ := ints_of (hv i 0 _ x hi rfl (by rw [hx]; rfl))
      exact ⟨x, xs, hx, hxs⟩
    refine ⟨(List.range n).map fun i => if hi : i < n then (key i hi).choose_spec.choose else [], a, b, o, c, fun i => if hi : i < n then (key i hi).choose else undef, by simp, fun h0 => ha (by simpa using h0), fun i hi => ?_, by have h0 := hn.1; simp [reachBytes, szB] at h0 ⊢; omega⟩
    simp at hi
    have hs := (key i hi).choose_spec.choose_spec
    have h1 := hr i hi
    rw [hs.1] at h1
    constructor
    · simp [hi]
      unfold rdN at h1
      unfold rd
      split at h1
      · rename_i cc el own hb
        split at h1
        · have h2 := Option.some.inj h1
          simp at h2
          have h3 : (List.take 1 (List.drop (o + i) cc))[0]? = some (key i hi).choose := by rw [h2]; simp
          rw [List.getElem?_take_of_lt (by omega), List.getElem?_drop] at h3
          simpa using h3
        · cases h1
      · cases h1
    · simp only [hi, dif_pos]
      have : nthR ((List.range n).map fun i => if hi : i < n then (key i hi).choose_spec.choose else []) i = (key i hi).choose_spec.choose := by simp [nthR, hi]
      rw [this]
      exact hs.2
end
/-- Plain lists are short, and parts of them may be taken. -/
theorem ints_room {h : List O} {v : Value} {xs : List Int} (hf : Fits h (.slice [.int .i64]) v) (hv : Ints h v xs) : xs.length * 8 ≤ roomMax ∧ ∃ a n c, v = .slice a n c ∧ n ≤ c ∧ ∀ b o, a = some ⟨b, o, none⟩ → tagOk h 1 b = true := by
  cases hf with
  | slice b o vs hn ha hr _ =>
    obtain ⟨a', b', o', c', e, _⟩ := hv
    simp only [Value.slice.injEq] at e
    obtain ⟨rfl, rfl, rfl⟩ := e
    refine ⟨by have h0 := hn.1; simp [reachBytes, szB, roomMax] at h0 ⊢; omega, _, _, _, rfl, hn.2.1, fun b o ha => hn.2.2 b o ha 1⟩
theorem mat_room {h : List O} {v : Value} {A : List (List Int)} (hf : Fits h (.slice [.slice [.int .i64]]) v) (hv : Mat h v A) : A.length * 24 ≤ roomMax ∧ ∀ i, i < A.length → (nthR A i).length * 8 ≤ roomMax := by
  cases hf with
  | slice b o vs hn ha hr hvs =>
    rename_i a n c
    obtain ⟨a', b', o', c', ws, e, h2, h3, h4⟩ := hv
    simp only [Value.slice.injEq] at e
    obtain ⟨rfl, rfl, rfl⟩ := e
    refine ⟨by have h0 := hn.1; simp [reachBytes, szB, roomMax] at h0 ⊢; omega, fun i hi => ?_⟩
    obtain ⟨k1, k2⟩ := h3 i hi
    have e1 := ha (by omega)
    have e2 := h2 (by omega)
    rw [e1] at e2
    simp only [Option.some.injEq, Addr.mk.injEq, and_true] at e2
    obtain ⟨rfl, rfl⟩ := e2
    have r1 := hr i hi
    have hw : (vs i)[0]? = some (ws i) := by
      unfold rdN at r1
      unfold rd at k1
      split at r1
      · rename_i cc el own hb
        rw [hb] at k1
        split at r1
        · have h2 := Option.some.inj r1
          rw [← h2]
          simp
          simpa using k1
        · cases r1
      · cases r1
    exact (ints_room (hvs i 0 _ _ hi rfl hw) k2).1
end Go.Ai
/- Runs in which a map is stepped through: rules, and that two such runs of one piece of code meet. -/
namespace Go.Ai
open Go.RowKit
set_option linter.unusedSimpArgs false
set_option linter.unusedVariables false
variable {E : Env}

/-! ### More fuel and a weaker end -/
def CMono (c c' : CallP) : Prop := ∀ f a st (Q Q' : Out → St → Prop), (∀ o s, Q o s → Q' o s) → c f a st Q → c' f a st Q'
theorem runL_mono {c c' : CallP} (hc : CMono c c') : ∀ (l : List ROper) (fr : Fr) (st : St) (Q Q' : Post), (∀ e f s, Q e f s → Q' e f s) → runL c l fr st Q → runL c' l fr st Q' := by
  intro l
  induction l with
  | nil => intro fr st Q Q' k h; exact k _ _ _ h
  | cons o os ih =>
    intro fr st Q Q' k h
    simp only [runL] at h ⊢
    split at h
    · rename_i hw
      try simp only [if_pos hw]
      cases hop : o.op <;> simp only [hop] at h ⊢
      case call f args =>
        split at h
        · rename_i g vs ht
          try simp only [ht]
          refine hc _ _ _ _ _ (fun out s hq => ?_) h
          cases out with
          | ret v => exact ih _ _ _ _ k hq
          | pan v => exact k _ _ _ hq
        · exact h.elim
      case next it =>
        split at h
        · rename_i hn
          try simp only [hn]
          exact ⟨fun e => ih _ _ _ _ k (h.1 e), fun en hen => ih _ _ _ _ k (h.2 en hen)⟩
        · exact h.elim
      all_goals
        split at h
        · rename_i v st1 hs; (try rw [hs]); exact ih _ _ _ _ k h
        · rename_i v st1 hs; (try rw [hs]); exact k _ _ _ h
        · exact h.elim
    · rename_i hw
      try simp only [if_neg hw]
      exact ih _ _ _ _ k h
theorem endP_imp {rf : RFun} {st : St} {Q Q' : Out → St → Prop} (k : ∀ o s, Q o s → Q' o s) : ∀ e fr s, endP rf st Q e fr s → endP rf st Q' e fr s := by
  intro e fr s h
  cases e with
  | normal => obtain ⟨v, h1, h2⟩ := h; exact ⟨v, h1, k _ _ h2⟩
  | ret => obtain ⟨v, h1, h2⟩ := h; exact ⟨v, h1, k _ _ h2⟩
  | pan v => exact k _ _ h
  | exit i => exact h
theorem callP_mono_of {X X' : R → Fr → St → Post → Prop} (hX : ∀ r fr st (Q Q' : Post), (∀ e f s, Q e f s → Q' e f s) → X r fr st Q → X' r fr st Q') : CMono (callPSig E.S (callPOf E.F X)) (callPSig E.S (callPOf E.F X')) := by
  intro f a st Q Q' k h
  unfold callPSig at h ⊢
  split at h
  · rename_i s hs
    try simp only [hs]
    try simp only
    split at h
    · rename_i o st' ho; (try rw [ho]); exact k _ _ h
    · exact h.elim
  · rename_i hs
    try simp only [hs]
    unfold callPOf at h ⊢
    split at h
    · exact h.elim
    · rename_i rf hrf
      try simp only [hrf]
      exact hX _ _ _ _ _ (endP_imp k) h
theorem runP_mono : ∀ (n m : Nat), n ≤ m → ∀ (r : R) (fr : Fr) (st : St) (Q Q' : Post), (∀ e f s, Q e f s → Q' e f s) → runP E n r fr st Q → runP E m r fr st Q' := by
  intro n
  induction n with
  | zero => intro m _ r fr st Q Q' k h; cases r <;> exact h.elim
  | succ n ih =>
    intro m hm r fr st Q Q' k h
    obtain ⟨m, rfl⟩ : ∃ m', m = m' + 1 := ⟨m - 1, by omega⟩
    have ih' := ih m (by omega)
    cases r with
    | skip => exact k _ _ _ h
    | exit id => exact k _ _ _ h
    | ret => exact k _ _ _ h
    | seq a b =>
      refine ih' _ _ _ _ _ (fun e f s hq => ?_) h
      cases e with
      | normal => exact ih' _ _ _ _ _ k hq
      | _ => exact k _ _ _ hq
    | cond c t el =>
      simp only [runP] at h ⊢
      split at h
      · rename_i b hb
        try simp only [hb]
        try simp only
        split at h
        · rename_i hbt; (try rw [if_pos hbt]); exact ih' _ _ _ _ _ k h
        · rename_i hbt; (try rw [if_neg hbt]); exact ih' _ _ _ _ _ k h
      · exact h.elim
    | block id b =>
      refine ih' _ _ _ _ _ (fun e f s hq => ?_) h
      cases e with
      | exit id' =>
        simp only at hq ⊢
        split at hq
        · rename_i e1; rw [if_pos e1]; exact k _ _ _ hq
        · rename_i e1; rw [if_neg e1]; exact k _ _ _ hq
      | _ => exact k _ _ _ hq
    | loop b =>
      refine ih' _ _ _ _ _ (fun e f s hq => ?_) h
      cases e with
      | normal => exact ih' _ _ _ _ _ k hq
      | _ => exact k _ _ _ hq
    | ops d l =>
      cases d with
      | false => exact runL_mono (callP_mono_of ih') _ _ _ _ _ k h
      | true =>
        simp only [runP] at h ⊢
        split at h
        · rename_i e fr' st' hs
          have hcall : ∀ f a st x, callSig E.S (callOf E.F (exec E n)) f a st = some x → callSig E.S (callOf E.F (exec E m)) f a st = some x := fun f a st x hx => call_mono (E := E) (n := n) (m := m) (by omega) hx
          rw [runOpsD_mono hcall _ _ _ _ _ _ hs]
          exact k _ _ _ h
        · exact h.elim

/-! ### Finitely many ways: what holds of each with some number holds of all with one -/
def CCont (c : CallP) : Prop := ∀ f a st (Q : Nat → Out → St → Prop), (∀ k k' o s, k ≤ k' → Q k o s → Q k' o s) → c f a st (fun o s => ∃ k, Q k o s) → ∃ k, c f a st (Q k)
theorem list_unif {α : Type} {P : Nat → α → Prop} (hm : ∀ k k' a, k ≤ k' → P k a → P k' a) : ∀ l : List α, (∀ a ∈ l, ∃ k, P k a) → ∃ k, ∀ a ∈ l, P k a := by
  intro l
  induction l with
  | nil => intro _; exact ⟨0, fun a ha => by simp at ha⟩
  | cons x xs ih =>
    intro h
    obtain ⟨k1, h1⟩ := h x (by simp)
    obtain ⟨k2, h2⟩ := ih fun a ha => h a (by simp [ha])
    refine ⟨max k1 k2, fun a ha => ?_⟩
    rcases List.mem_cons.1 ha with rfl | ha
    · exact hm _ _ _ (Nat.le_max_left _ _) h1
    · exact hm _ _ _ (Nat.le_max_right _ _) (h2 a ha)
theorem runL_cont {c : CallP} (hc : CCont c) (hm : CMono c c) : ∀ (l : List ROper) (fr : Fr) (st : St) (Q : Nat → Post), (∀ k k' e f s, k ≤ k' → Q k e f s → Q k' e f s) → runL c l fr st (fun e f s => ∃ k, Q k e f s) → ∃ k, runL c l fr st (Q k) := by
  intro l
  induction l with
  | nil => intro fr st Q k h; exact h
  | cons o os ih =>
    intro fr st Q k h
    have mono : ∀ a b fr st, a ≤ b → runL c os fr st (Q a) → runL c os fr st (Q b) := fun a b fr st hab => runL_mono hm _ _ _ _ _ fun e f s => k a b e f s hab
    simp only [runL] at h ⊢
    split at h
    · rename_i hw
      try simp only [if_pos hw]
      cases hop : o.op <;> simp only [hop] at h ⊢
      case call f args =>
        split at h
        · rename_i g vs ht
          try simp only [ht]
          refine hc _ _ _ (fun k out st' => match out with
            | .ret v => runL c os (putD fr o.dst v) (joined st st') (Q k)
            | .pan v => Q k (.pan v) fr (joined st st')) (fun a b out s hab hq => ?_) (hm _ _ _ _ _ (fun out s hq => ?_) h)
          · cases out with
            | ret v => exact mono _ _ _ _ hab hq
            | pan v => exact k _ _ _ _ _ hab hq
          · cases out with
            | ret v => exact ih _ _ _ k hq
            | pan v => exact hq
        · exact h.elim
      case next it =>
        split at h
        · rename_i r b since seen l hn
          try simp only [hn]
          try simp only
          obtain ⟨k1, h1⟩ : ∃ k1, l = [] → runL c os (putD fr o.dst nextOver) (nextEnd r st) (Q k1) := by
            by_cases e : l = []
            · obtain ⟨k1, h1⟩ := ih _ _ _ k (h.1 e); exact ⟨k1, fun _ => h1⟩
            · exact ⟨0, fun e' => absurd e' e⟩
          obtain ⟨k2, h2⟩ := list_unif (P := fun k2 en => runL c os (putD fr o.dst (nextTo r b since seen en st).1) (nextTo r b since seen en st).2 (Q k2)) (fun a b en hab => mono a b _ _ hab) l fun en hen => ih _ _ _ k (h.2 en hen)
          exact ⟨max k1 k2, fun e => mono _ _ _ _ (Nat.le_max_left _ _) (h1 e), fun en hen => mono _ _ _ _ (Nat.le_max_right _ _) (h2 en hen)⟩
        · exact h.elim
      all_goals
        split at h
        · rename_i v st1 hs; (try rw [hs]); exact ih _ _ _ k h
        · rename_i v st1 hs; (try rw [hs]); exact h
        · exact h.elim
    · rename_i hw
      try simp only [if_neg hw]
      exact ih _ _ _ k h
theorem callP_cont_of {X : R → Fr → St → Post → Prop} (hX : ∀ r fr st (Q : Nat → Post), (∀ k k' e f s, k ≤ k' → Q k e f s → Q k' e f s) → X r fr st (fun e f s => ∃ k, Q k e f s) → ∃ k, X r fr st (Q k))
    (hM : ∀ r fr st (Q Q' : Post), (∀ e f s, Q e f s → Q' e f s) → X r fr st Q → X r fr st Q') : CCont (callPSig E.S (callPOf E.F X)) := by
  intro f a st Q k h
  unfold callPSig at h ⊢
  split at h
  · rename_i s hs
    try simp only [hs]
    try simp only
    split at h
    · rename_i o st' ho; (try rw [ho]); exact h
    · exact h.elim
  · rename_i hs
    try simp only [hs]
    unfold callPOf at h ⊢
    split at h
    · exact h.elim
    · rename_i rf hrf
      try simp only [hrf]
      refine hX _ _ _ (fun k => endP rf st (Q k)) (fun a b e f s hab => endP_imp (fun o s => k a b o s hab) e f s) (hM _ _ _ _ _ (fun e f s hq => ?_) h)
      cases e with
      | normal => obtain ⟨v, h1, k1, h2⟩ := hq; exact ⟨k1, v, h1, h2⟩
      | ret => obtain ⟨v, h1, k1, h2⟩ := hq; exact ⟨k1, v, h1, h2⟩
      | pan v => exact hq
      | exit i => exact hq.elim
theorem runP_cont : ∀ (n : Nat) (r : R) (fr : Fr) (st : St) (Q : Nat → Post), (∀ k k' e f s, k ≤ k' → Q k e f s → Q k' e f s) → runP E n r fr st (fun e f s => ∃ k, Q k e f s) → ∃ k, runP E n r fr st (Q k) := by
  intro n
  induction n with
  | zero => intro r fr st Q k h; cases r <;> exact h.elim
  | succ n ih =>
    intro r fr st Q k h
    have mono : ∀ r fr st (Q Q' : Post), (∀ e f s, Q e f s → Q' e f s) → runP E n r fr st Q → runP E n r fr st Q' := runP_mono n n (Nat.le_refl _)
    cases r with
    | skip => exact h
    | exit id => exact h
    | ret => exact h
    | seq a b =>
      refine ih a fr st (fun k e fr' st' => match e with
        | .normal => runP E n b fr' st' (Q k)
        | e => Q k e fr' st') (fun x y e f s hxy hq => ?_) (mono _ _ _ _ _ (fun e f s hq => ?_) h)
      · cases e with
        | normal => exact mono _ _ _ _ _ (fun e f s => k x y e f s hxy) hq
        | _ => exact k _ _ _ _ _ hxy hq
      · cases e with
        | normal => exact ih _ _ _ _ k hq
        | _ => exact hq
    | cond c t el =>
      simp only [runP] at h ⊢
      split at h
      · rename_i b hb
        try simp only [hb]
        try simp only
        split at h
        · rename_i hbt; (try simp only [if_pos hbt]); exact ih _ _ _ _ k h
        · rename_i hbt; (try simp only [if_neg hbt]); exact ih _ _ _ _ k h
      · exact h.elim
    | block id b =>
      refine ih b fr st (fun k e fr' st' => match e with
        | .exit id' => if id' = id then Q k .normal fr' st' else Q k (.exit id') fr' st'
        | e => Q k e fr' st') (fun x y e f s hxy hq => ?_) (mono _ _ _ _ _ (fun e f s hq => ?_) h)
      · cases e with
        | exit id' =>
          simp only at hq ⊢
          split at hq
          · rename_i e1; rw [if_pos e1]; exact k _ _ _ _ _ hxy hq
          · rename_i e1; rw [if_neg e1]; exact k _ _ _ _ _ hxy hq
        | _ => exact k _ _ _ _ _ hxy hq
      · cases e with
        | exit id' =>
          simp only at hq ⊢
          split at hq
          · rename_i e1; simp only [if_pos e1]; exact hq
          · rename_i e1; simp only [if_neg e1]; exact hq
        | _ => exact hq
    | loop b =>
      refine ih b fr st (fun k e fr' st' => match e with
        | .normal => runP E n (.loop b) fr' st' (Q k)
        | e => Q k e fr' st') (fun x y e f s hxy hq => ?_) (mono _ _ _ _ _ (fun e f s hq => ?_) h)
      · cases e with
        | normal => exact mono _ _ _ _ _ (fun e f s => k x y e f s hxy) hq
        | _ => exact k _ _ _ _ _ hxy hq
      · cases e with
        | normal => exact ih _ _ _ _ k hq
        | _ => exact hq
    | ops d l =>
      cases d with
      | false => exact runL_cont (callP_cont_of ih mono) (callP_mono_of mono) _ _ _ _ k h
      | true =>
        simp only [runP] at h ⊢
        split at h
        · rename_i e fr' st' hs; (try rw [hs]); exact h
        · exact h.elim

/-! ### Two runs of one piece of code meet -/
def CMeet (c c' : CallP) : Prop := ∀ f a st (Q Q' : Out → St → Prop), c f a st Q → c' f a st Q' → ∃ o s, Q o s ∧ Q' o s
theorem runL_meet {c c' : CallP} (hc : CMeet c c') : ∀ (l : List ROper) (fr : Fr) (st : St) (Q Q' : Post), runL c l fr st Q → runL c' l fr st Q' → ∃ e f s, Q e f s ∧ Q' e f s := by
  intro l
  induction l with
  | nil => intro fr st Q Q' h h'; exact ⟨_, _, _, h, h'⟩
  | cons o os ih =>
    intro fr st Q Q' h h'
    simp only [runL] at h h'
    split at h
    · rename_i hw
      rw [if_pos hw] at h'
      cases hop : o.op <;> simp only [hop] at h h'
      case call f args =>
        split at h
        · rename_i g vs ht
          try simp only [ht] at h'
          obtain ⟨out, s, h1, h2⟩ := hc _ _ _ _ _ h h'
          cases out with
          | ret v => exact ih _ _ _ _ h1 h2
          | pan v => exact ⟨_, _, _, h1, h2⟩
        · exact h.elim
      case next it =>
        split at h
        · rename_i r b since seen l hn
          try simp only [hn] at h'
          try simp only at h'
          cases l with
          | nil => exact ih _ _ _ _ (h.1 rfl) (h'.1 rfl)
          | cons en l => exact ih _ _ _ _ (h.2 en (by simp)) (h'.2 en (by simp))
        · exact h.elim
      all_goals
        split at h
        · rename_i v st1 hs; (try rw [hs] at h'); exact ih _ _ _ _ h h'
        · rename_i v st1 hs; (try rw [hs] at h'); exact ⟨_, _, _, h, h'⟩
        · exact h.elim
    · rename_i hw
      rw [if_neg hw] at h'
      exact ih _ _ _ _ h h'
theorem endP_meet {rf : RFun} {st : St} {Q Q' : Out → St → Prop} {e : Ex} {fr : Fr} {s : St} (h : endP rf st Q e fr s) (h' : endP rf st Q' e fr s) : ∃ o s, Q o s ∧ Q' o s := by
  cases e with
  | normal => obtain ⟨v, h1, h2⟩ := h; obtain ⟨v', h1', h2'⟩ := h'; rw [h1] at h1'; cases h1'; exact ⟨_, _, h2, h2'⟩
  | ret => obtain ⟨v, h1, h2⟩ := h; obtain ⟨v', h1', h2'⟩ := h'; rw [h1] at h1'; cases h1'; exact ⟨_, _, h2, h2'⟩
  | pan v => exact ⟨_, _, h, h'⟩
  | exit i => exact h.elim
theorem callP_meet_of {X X' : R → Fr → St → Post → Prop} (hX : ∀ r fr st (Q Q' : Post), X r fr st Q → X' r fr st Q' → ∃ e f s, Q e f s ∧ Q' e f s) : CMeet (callPSig E.S (callPOf E.F X)) (callPSig E.S (callPOf E.F X')) := by
  intro f a st Q Q' h h'
  unfold callPSig at h h'
  split at h
  · rename_i s hs
    try simp only [hs] at h'
    try simp only at h'
    split at h
    · rename_i o st' ho; (try rw [ho] at h'); exact ⟨_, _, h, h'⟩
    · exact h.elim
  · rename_i hs
    try simp only [hs] at h'
    unfold callPOf at h h'
    split at h
    · exact h.elim
    · rename_i rf hrf
      try simp only [hrf] at h'
      obtain ⟨e, f, s, h1, h2⟩ := hX _ _ _ _ _ h h'
      exact endP_meet h1 h2
theorem runP_meet : ∀ (n m : Nat) (r : R) (fr : Fr) (st : St) (Q Q' : Post), runP E n r fr st Q → runP E m r fr st Q' → ∃ e f s, Q e f s ∧ Q' e f s := by
  intro n
  induction n with
  | zero => intro m r fr st Q Q' h; cases r <;> exact h.elim
  | succ n ih =>
    intro m r fr st Q Q' h h'
    cases m with
    | zero => cases r <;> exact h'.elim
    | succ m =>
      have ih' := ih m
      cases r with
      | skip => exact ⟨_, _, _, h, h'⟩
      | exit id => exact ⟨_, _, _, h, h'⟩
      | ret => exact ⟨_, _, _, h, h'⟩
      | seq a b =>
        obtain ⟨e, f, s, h1, h2⟩ := ih' _ _ _ _ _ h h'
        cases e with
        | normal => exact ih' _ _ _ _ _ h1 h2
        | _ => exact ⟨_, _, _, h1, h2⟩
      | cond c t el =>
        simp only [runP] at h h'
        split at h
        · rename_i b hb
          try simp only [hb] at h'
          try simp only at h'
          split at h
          · rename_i hbt; (try rw [if_pos hbt] at h'); exact ih' _ _ _ _ _ h h'
          · rename_i hbt; (try rw [if_neg hbt] at h'); exact ih' _ _ _ _ _ h h'
        · exact h.elim
      | block id b =>
        obtain ⟨e, f, s, h1, h2⟩ := ih' _ _ _ _ _ h h'
        cases e with
        | exit id' =>
          simp only at h1 h2
          split at h1
          · rename_i e1; rw [if_pos e1] at h2; exact ⟨_, _, _, h1, h2⟩
          · rename_i e1; rw [if_neg e1] at h2; exact ⟨_, _, _, h1, h2⟩
        | _ => exact ⟨_, _, _, h1, h2⟩
      | loop b =>
        obtain ⟨e, f, s, h1, h2⟩ := ih' _ _ _ _ _ h h'
        cases e with
        | normal => exact ih' _ _ _ _ _ h1 h2
        | _ => exact ⟨_, _, _, h1, h2⟩
      | ops d l =>
        cases d with
        | false => exact runL_meet (callP_meet_of ih') _ _ _ _ _ h h'
        | true =>
          simp only [runP] at h h'
          split at h
          · rename_i e fr' st' hs
            split at h'
            · rename_i e2 fr2 st2 hs2
              have hcall : ∀ k f a st x, k ≤ max n m → callSig E.S (callOf E.F (exec E k)) f a st = some x → callSig E.S (callOf E.F (exec E (max n m))) f a st = some x := fun k f a st x hk hx => call_mono (E := E) hk hx
              have h1 := runOpsD_mono (fun f a st x => hcall n f a st x (Nat.le_max_left _ _)) _ _ _ _ _ _ hs
              have h2 := runOpsD_mono (fun f a st x => hcall m f a st x (Nat.le_max_right _ _)) _ _ _ _ _ _ hs2
              rw [h1] at h2
              cases h2
              exact ⟨_, _, _, h, h'⟩
            · exact h'.elim
          · exact h.elim
end Go.Ai
/- Rules for runs in which a map is stepped through, and the operations of maps as they are run. -/
namespace Go.Ai
open Go.RowKit
set_option linter.unusedSimpArgs false
set_option linter.unusedVariables false
variable {E : Env} {e : Operand → Value} {st : St}

/-! ### Rules -/
def PW (E : Env) (r : R) (fr : Fr) (st : St) (Q : Post) : Prop := ∃ n, runP E n r fr st Q
def PL (E : Env) (l : List ROper) (fr : Fr) (st : St) (Q : Post) : Prop := ∃ n, runL (callP E n) l fr st Q
def PC (E : Env) (f : FuncId) (args : List Value) (st : St) (Q : Out → St → Prop) : Prop := ∃ n, callP E n f args st Q
def seqP (E : Env) (b : R) (Q : Post) : Post
  | .normal, fr, st => PW E b fr st Q
  | .exit i, fr, st => Q (.exit i) fr st
  | .ret, fr, st => Q .ret fr st
  | .pan v, fr, st => Q (.pan v) fr st
@[simp] theorem seqP_normal {b : R} {Q : Post} {fr st} : seqP E b Q .normal fr st ↔ PW E b fr st Q := Iff.rfl
@[simp] theorem seqP_exit {b : R} {Q : Post} {fr st i} : seqP E b Q (.exit i) fr st ↔ Q (.exit i) fr st := Iff.rfl
@[simp] theorem seqP_ret {b : R} {Q : Post} {fr st} : seqP E b Q .ret fr st ↔ Q .ret fr st := Iff.rfl
@[simp] theorem seqP_pan {b : R} {Q : Post} {fr st v} : seqP E b Q (.pan v) fr st ↔ Q (.pan v) fr st := Iff.rfl

theorem PW.imp {r : R} {fr st} {Q Q' : Post} (h : PW E r fr st Q) (k : ∀ e f s, Q e f s → Q' e f s) : PW E r fr st Q' := by
  obtain ⟨n, h⟩ := h; exact ⟨n, runP_mono n n (Nat.le_refl _) _ _ _ _ _ k h⟩
theorem callP_mono {n m : Nat} (h : n ≤ m) : CMono (callP E n) (callP E m) := callP_mono_of (runP_mono n m h)
theorem PL.imp {l : List ROper} {fr st} {Q Q' : Post} (h : PL E l fr st Q) (k : ∀ e f s, Q e f s → Q' e f s) : PL E l fr st Q' := by
  obtain ⟨n, h⟩ := h; exact ⟨n, runL_mono (callP_mono (Nat.le_refl n)) _ _ _ _ _ k h⟩
theorem PC.imp {f : FuncId} {args st} {Q Q' : Out → St → Prop} (h : PC E f args st Q) (k : ∀ o s, Q o s → Q' o s) : PC E f args st Q' := by
  obtain ⟨n, h⟩ := h; exact ⟨n, callP_mono (Nat.le_refl n) _ _ _ _ _ k h⟩
/-- A run with finitely many ways whose ends go on by themselves. -/
theorem PW.join {r : R} {fr st} {P : Nat → Post} (hm : ∀ k k' e f s, k ≤ k' → P k e f s → P k' e f s) (h : PW E r fr st fun e f s => ∃ k, P k e f s) : ∃ n k, runP E n r fr st (P k) := by
  obtain ⟨n, h⟩ := h
  obtain ⟨k, h⟩ := runP_cont n r fr st P hm h
  exact ⟨n, k, h⟩
theorem PW_of_DW {r : R} {fr st} {Q : Post} (h : DW E r fr st Q) : PW E r fr st Q := by
  obtain ⟨n, e, fr', st', h1, h2⟩ := h; exact ⟨n, runP_of n r fr st Q e fr' st' h1 h2⟩
theorem PC_of_DC {f : FuncId} {args st} {Q : Out → St → Prop} (h : DC E f args st Q) : PC E f args st Q := by
  obtain ⟨o, st', ⟨n, h1⟩, h2⟩ := h
  refine ⟨n, ?_⟩
  unfold call callSig at h1
  unfold callP callPSig
  split at h1
  · rename_i s hs
    (try simp only [hs])
    rw [h1]; exact h2
  · rename_i hs
    (try simp only [hs])
    unfold callOf at h1
    unfold callPOf
    split at h1
    · cases h1
    · rename_i rf hrf
      (try simp only [hrf])
      split at h1
      · rename_i fr1 st1 hx
        simp only [Option.map_eq_some_iff] at h1
        obtain ⟨v, hv, hb⟩ := h1
        exact runP_of n _ _ _ _ _ _ _ hx ⟨v, hv, by rw [hb]; exact h2⟩
      · rename_i fr1 st1 hx
        simp only [Option.map_eq_some_iff] at h1
        obtain ⟨v, hv, hb⟩ := h1
        exact runP_of n _ _ _ _ _ _ _ hx ⟨v, hv, by rw [hb]; exact h2⟩
      · rename_i v fr1 st1 hx
        simp only [Option.some.injEq] at h1
        exact runP_of n _ _ _ _ _ _ _ hx (by simp only [endP]; rw [h1]; exact h2)
      · cases h1
theorem PW_seq {a b : R} {fr st} {Q : Post} (h : PW E a fr st (seqP E b Q)) : PW E (.seq a b) fr st Q := by
  obtain ⟨n, k, h⟩ := PW.join (P := fun k e fr' st' => match e with
    | .normal => runP E k b fr' st' Q
    | e => Q e fr' st') (fun k k' e f s hk hq => by
      cases e with
      | normal => exact runP_mono k k' hk _ _ _ _ _ (fun _ _ _ h => h) hq
      | _ => exact hq) (h.imp fun e f s hq => by
      cases e with
      | normal => exact hq
      | _ => exact ⟨0, hq⟩)
  refine ⟨max n k + 1, runP_mono n _ (Nat.le_max_left _ _) _ _ _ _ _ (fun e f s hq => ?_) h⟩
  cases e with
  | normal => exact runP_mono k _ (Nat.le_max_right _ _) _ _ _ _ _ (fun _ _ _ h => h) hq
  | _ => exact hq
theorem PW_seqD {a b : R} {fr st} {Q : Post} (h : DW E a fr st (seqP E b Q)) : PW E (.seq a b) fr st Q := PW_seq (PW_of_DW h)
theorem PW_cond {c : Operand} {t el : R} {fr st} {Q : Post} {b : Bool} (hb : ev fr c = .bool b) (h1 : b = true → PW E t fr st Q) (h2 : b = false → PW E el fr st Q) : PW E (.cond c t el) fr st Q := by
  cases b with
  | true => obtain ⟨n, h⟩ := h1 rfl; exact ⟨n + 1, by simp only [runP, hb]; exact h⟩
  | false => obtain ⟨n, h⟩ := h2 rfl; exact ⟨n + 1, by simp only [runP, hb]; exact h⟩
theorem PW_block {id : Nat} {b : R} {fr st} {Q : Post} (h : PW E b fr st (blockK id Q)) : PW E (.block id b) fr st Q := by
  obtain ⟨n, h⟩ := h
  refine ⟨n + 1, runP_mono n n (Nat.le_refl _) _ _ _ _ _ (fun e f s hq => ?_) h⟩
  cases e <;> exact hq
theorem PW_ops {l : List ROper} {fr st} {Q : Post} (h : PL E l fr st Q) : PW E (.ops false l) fr st Q := by
  obtain ⟨n, h⟩ := h; exact ⟨n + 1, h⟩
theorem PL_of_DL {l : List ROper} {fr st} {Q : Post} (h : DL E l fr st Q) : PL E l fr st Q := by
  have := PW_of_DW (DW_ops.2 h)
  obtain ⟨n, h⟩ := this
  cases n with
  | zero => exact h.elim
  | succ n => exact ⟨n, h⟩
theorem PW_loop_unfold {b : R} {fr st} {Q : Post} (h : PW E b fr st (seqP E (.loop b) Q)) : PW E (.loop b) fr st Q := by
  obtain ⟨n, k, h⟩ := PW.join (P := fun k e fr' st' => match e with
    | .normal => runP E k (.loop b) fr' st' Q
    | e => Q e fr' st') (fun k k' e f s hk hq => by
      cases e with
      | normal => exact runP_mono k k' hk _ _ _ _ _ (fun _ _ _ h => h) hq
      | _ => exact hq) (h.imp fun e f s hq => by
      cases e with
      | normal => exact hq
      | _ => exact ⟨0, hq⟩)
  refine ⟨max n k + 1, runP_mono n _ (Nat.le_max_left _ _) _ _ _ _ _ (fun e f s hq => ?_) h⟩
  cases e with
  | normal => exact runP_mono k _ (Nat.le_max_right _ _) _ _ _ _ _ (fun _ _ _ h => h) hq
  | _ => exact hq
theorem PW_loop (I : Nat → Fr → St → Prop) {b : R} {Q : Post} (hI : ∀ k fr st, I k fr st → PW E b fr st (roundK I k Q)) {k : Nat} {fr st} (h : I k fr st) : PW E (.loop b) fr st Q := by
  induction k using Nat.strongRecOn generalizing fr st with
  | ind k ih =>
    refine PW_loop_unfold ((hI k fr st h).imp fun e fr' st' hq => ?_)
    cases e with
    | normal => obtain ⟨k', hk, hi⟩ := hq; exact ih k' hk hi
    | _ => exact hq
theorem PL_next {dst : Option Nat} {it : Operand} {anc : Nat} {os : List ROper} {fr : Fr} {st : St} {Q : Post} {r b since : Nat} {seen : List Nat} {l : List MapEntry} (hn : nextC (ev fr it) st = some (r, b, since, seen, l))
    (h1 : l = [] → PL E os (putD fr dst nextOver) (nextEnd r st) Q) (h2 : ∀ en ∈ l, PL E os (putD fr dst (nextTo r b since seen en st).1) (nextTo r b since seen en st).2 Q) : PL E (⟨dst, none, .next it, anc⟩ :: os) fr st Q := by
  have mono : ∀ a b fr st, a ≤ b → runL (callP E a) os fr st Q → runL (callP E b) os fr st Q := fun a b fr st hab => runL_mono (callP_mono hab) _ _ _ _ _ fun _ _ _ h => h
  obtain ⟨k1, h1⟩ : ∃ k1, l = [] → runL (callP E k1) os (putD fr dst nextOver) (nextEnd r st) Q := by
    by_cases e : l = []
    · obtain ⟨k1, h1⟩ := h1 e; exact ⟨k1, fun _ => h1⟩
    · exact ⟨0, fun e' => absurd e' e⟩
  obtain ⟨k2, h2⟩ := list_unif (P := fun k2 en => runL (callP E k2) os (putD fr dst (nextTo r b since seen en st).1) (nextTo r b since seen en st).2 Q) (fun a b en hab => mono a b _ _ hab) l h2
  refine ⟨max k1 k2, ?_⟩
  simp only [runL, wanted, hn, if_true]
  exact ⟨fun e => mono _ _ _ _ (Nat.le_max_left _ _) (h1 e), fun en hen => mono _ _ _ _ (Nat.le_max_right _ _) (h2 en hen)⟩
theorem PC_fn {f : FuncId} {body : R} {res : List RRes} {args st} {Q : Out → St → Prop} (hF : E.F f = some ⟨body, res⟩) (hS : E.S f = none) (h : PW E body args st (endK res st Q)) : PC E f args st Q := by
  obtain ⟨n, h⟩ := h
  refine ⟨n, ?_⟩
  unfold callP callPSig
  simp only [hS]
  unfold callPOf
  simp only [hF]
  refine runP_mono n n (Nat.le_refl _) _ _ _ _ _ (fun e f s hq => ?_) h
  cases e <;> exact hq

/-! ### A function's summary: what all its ways come to -/
open Classical in
noncomputable def sumOf (E : Env) (f : FuncId) (args : List Value) (st : St) : Option (Out × St) :=
  if h : ∃ x : Out × St, (PC E f args st fun o s => (o, s) = x) ∧ Kept st x.2 then some h.choose else none
theorem sumOf_spec {f : FuncId} {args : List Value} {o : Out} {s : St} (h : sumOf E f args st = some (o, s)) : (PC E f args st fun o' s' => o' = o ∧ s' = s) ∧ Kept st s := by
  unfold sumOf at h
  split at h
  · rename_i hx
    have := hx.choose_spec
    simp only [Option.some.injEq] at h
    rw [h] at this
    exact ⟨this.1.imp fun o' s' e => by simpa using e, this.2⟩
  · cases h
theorem PC.meet {f : FuncId} {args : List Value} {Q Q' : Out → St → Prop} (h : PC E f args st Q) (h' : PC E f args st Q') : ∃ o s, Q o s ∧ Q' o s := by
  obtain ⟨n, h⟩ := h
  obtain ⟨m, h'⟩ := h'
  exact callP_meet_of (runP_meet n m) _ _ _ _ _ h h'
theorem sumOf_eq {f : FuncId} {args : List Value} {o : Out} {s : St} (h : PC E f args st fun o' s' => o' = o ∧ s' = s) (hk : Kept st s) : sumOf E f args st = some (o, s) := by
  unfold sumOf
  have hx : ∃ x : Out × St, (PC E f args st fun o s => (o, s) = x) ∧ Kept st x.2 := ⟨(o, s), h.imp fun o' s' e => by rw [e.1, e.2], hk⟩
  rw [dif_pos hx]
  obtain ⟨o2, s2, e1, e2, e3⟩ := PC.meet hx.choose_spec.1 h
  rw [← e1, e2, e3]
/-- An environment with one more summary. -/
noncomputable def withSum (E : Env) (f : FuncId) : Env := ⟨E.F, fun g => if g = f then some (sumOf E f) else E.S g⟩
theorem withSum_kept {f : FuncId} (hS : SumsKept E) : SumsKept (withSum E f) := fun g s h args st o st' hs => by
  simp only [withSum] at h
  split at h
  · obtain rfl := Option.some.inj h; exact (sumOf_spec hs).2
  · exact hS g s h args st o st' hs
theorem withSum_ok {P : Program} {f : FuncId} (hm : P.follows .mixedOrders = true) (hE : ∀ B, EnvOk Fence.wide P B E) (hS : SumsKept E) (hf : Callable P f) (B : Nat) : EnvOk Fence.wide P B (withSum E f) :=
  ⟨(hE B).code, fun g s h => by
    simp only [withSum] at h
    split at h
    · rename_i e; subst e
      obtain rfl := Option.some.inj h
      refine ⟨hf, fun args st o st' hs hfl n ρ w args' ha hr => ?_⟩
      obtain ⟨⟨m, hp⟩, _⟩ := sumOf_spec hs
      exact (callsOk_wide hm (hE B) hS m g args st _ hp).2 hfl n ρ w args' ha hr
    · exact (hE B).sums g s h⟩
theorem withSum_DR {f : FuncId} {args : List Value} {o : Out} {s : St} (h : PC E f args st fun o' s' => o' = o ∧ s' = s) (hk : Kept st s) : DR (withSum E f) f args st o s := by
  refine ⟨0, ?_⟩
  unfold call callSig
  simp only [withSum, if_true]
  exact sumOf_eq h hk

/-! ### Maps of numbers to numbers -/
def entZ (x : Int × Int × Nat) : MapEntry := { key := .int .i64 x.1, val := .int .i64 x.2.1, born := x.2.2 }
def atZ (k : Int) : List (Int × Int × Nat) → Nat → Option (Nat × Int)
  | [], _ => none
  | x :: l, i => if x.1 = k then some (i, x.2.1) else atZ k l (i + 1)
theorem findE_ent (k : Int) (l : List (Int × Int × Nat)) (i : Nat) : findE [.int .i64 k] (l.map entZ) i = (atZ k l i).map fun x => (x.1, .int .i64 x.2) := by
  induction l generalizing i with
  | nil => rfl
  | cons x l ih =>
    simp only [List.map_cons, findE, atZ, entZ, cells_int, eqCells, eqCell, Bool.and_true]
    by_cases h : x.1 = k
    · rw [if_pos h, if_pos (by simp [h])]; rfl
    · rw [if_neg h, if_neg (by simpa using fun e => h e.symm)]; exact ih _
theorem findK_ent (k : Int) (l : List (Int × Int × Nat)) : findK [some .i64] false (.int .i64 k) (l.map entZ) = some ((atZ k l 0).map fun x => (x.1, .int .i64 x.2)) := by
  have h1 : keyCells [some .i64] false (.int .i64 k) = some [.int .i64 k] := rfl
  have h2 : keysOk [some .i64] false (l.map entZ) = true := by
    unfold keysOk
    rw [List.all_map, List.all_eq_true]
    intro x _
    rfl
  simp only [findK, h1, h2, if_true, findE_ent]
def lookupS (shape : List (Option IntKind)) (agg : Bool) (zero : Value) (wok : Bool) (st : St) (x k : Value) : Option (Res × St) := match x with
  | .map (some b) => match st.h[b]? with
    | some (.map es _) => do
      let f ← findK shape agg k es
      let (v, ok) := match f with | some (_, v) => (v, true) | none => (zero, false)
      some (.val (if wok then .tuple #[v, .bool ok] else v), st)
    | _ => none
  | _ => none
@[simp] theorem step_lookup {shape agg zero x k wok} : step (.lookup shape agg zero x k wok) e st = lookupS shape agg zero wok st (e x) (e k) := rfl
def mapEntryS (shape : List (Option IntKind)) (agg : Bool) (zero : Value) (st : St) (m k : Value) : Option (Res × St) := match m with
  | .map (some b) => match st.h[b]? with
    | some (.map es clock) => do
      let f ← findK shape agg k es
      match f with
      | some (i, v) => some (.val (.tuple #[v, .int .i64 (((es[i]?).map (·.born)).getD 0)]), { st with fl := min st.fl b })
      | none => some (.val (.tuple #[zero, .int .i64 clock]), { st with h := st.h.set b (.map (es ++ [{ key := k, val := zero, born := clock }]) (clock + 1)), fl := min st.fl b })
    | _ => none
  | _ => none
@[simp] theorem step_mapEntry {shape agg zero m k} : step (.mapEntry shape agg zero m k) e st = mapEntryS shape agg zero st (e m) (e k) := rfl
def entryStoreS (st : St) (m s v : Value) : Option (Res × St) := match m, s with
  | .map (some b), .int .i64 born => match st.h[b]? with
    | some (.map es clock) => match es.findIdx? (fun en => (en.born : Int) == born) with
      | some i => some (.val undef, { st with h := st.h.set b (.map (es.modify i fun en => { en with val := v }) clock), fl := min st.fl b })
      | none => none
    | _ => none
  | _, _ => none
@[simp] theorem step_entryStore {m s v} : step (.entryStore m s v) e st = entryStoreS st (e m) (e s) (e v) := by
  simp only [step, entryStoreS]
  generalize e m = vm
  generalize e s = vs
  cases vm <;> try rfl
def deleteS (shape : List (Option IntKind)) (agg : Bool) (st : St) (m k : Value) : Option (Res × St) := match m with
  | .map (some b) => match st.h[b]? with
    | some (.map es clock) => do
      let f ← findK shape agg k es
      let es' := match f with | some (i, _) => es.eraseIdx i | none => es
      some (.val undef, { st with h := st.h.set b (.map es' clock), fl := min st.fl b })
    | _ => none
  | _ => none
@[simp] theorem step_delete {shape agg m k} : step (.delete shape agg m k) e st = deleteS shape agg st (e m) (e k) := rfl
theorem map_eraseIdx {α β : Type} (f : α → β) : ∀ (l : List α) (i : Nat), (l.map f).eraseIdx i = (l.eraseIdx i).map f
  | [], i => by simp
  | x :: l, 0 => rfl
  | x :: l, i + 1 => by simp only [List.map_cons, List.eraseIdx_cons_succ, map_eraseIdx f l i]
def eraseZ (k : Int) (l : List (Int × Int × Nat)) : List (Int × Int × Nat) := match atZ k l 0 with
  | some (i, _) => l.eraseIdx i
  | none => l
theorem lookupS_ent {b clock : Nat} {kk : Int} {l : List (Int × Int × Nat)} (hb : st.h[b]? = some (.map (l.map entZ) clock)) {z : Value} :
    lookupS [some .i64] false z true st (.map (some b)) (.int .i64 kk) = some (.val (match atZ kk l 0 with | some (_, v) => .tuple #[.int .i64 v, .bool true] | none => .tuple #[z, .bool false]), st) := by
  simp only [lookupS, hb, findK_ent, bind, Option.bind_some]
  cases atZ kk l 0 <;> rfl
theorem mapEntryS_ent {b clock : Nat} {kk : Int} {l : List (Int × Int × Nat)} (hb : st.h[b]? = some (.map (l.map entZ) clock)) (hn : atZ kk l 0 = none) {z : Value} :
    mapEntryS [some .i64] false z st (.map (some b)) (.int .i64 kk) = some (.val (.tuple #[z, .int .i64 clock]), { st with h := st.h.set b (.map (l.map entZ ++ [{ key := .int .i64 kk, val := z, born := clock }]) (clock + 1)), fl := min st.fl b }) := by
  simp only [mapEntryS, hb, findK_ent, bind, Option.bind_some, hn, Option.map_none]
theorem deleteS_ent {b clock : Nat} {kk : Int} {l : List (Int × Int × Nat)} (hb : st.h[b]? = some (.map (l.map entZ) clock)) :
    deleteS [some .i64] false st (.map (some b)) (.int .i64 kk) = some (.val undef, { st with h := st.h.set b (.map ((eraseZ kk l).map entZ) clock), fl := min st.fl b }) := by
  simp only [deleteS, hb, findK_ent, bind, Option.bind_some, eraseZ]
  cases atZ kk l 0 with
  | none => rfl
  | some x => simp [map_eraseIdx]
theorem modify_last {α : Type} (f : α → α) (l : List α) (x : α) : (l ++ [x]).modify l.length f = l ++ [f x] := by
  induction l with
  | nil => rfl
  | cons y l ih => simp [List.modify_succ_cons, ih]
theorem entryStoreS_ent {h : List O} {b clock f : Nat} {kk vv : Int} {z : Value} {l : List (Int × Int × Nat)} (hb : b < h.length) (hbo : ∀ x ∈ l, x.2.2 < clock) :
    entryStoreS ⟨h.set b (.map (l.map entZ ++ [{ key := .int .i64 kk, val := z, born := clock }]) (clock + 1)), f⟩ (.map (some b)) (.int .i64 clock) (.int .i64 vv) =
      some (.val undef, ⟨h.set b (.map ((l ++ [(kk, vv, clock)]).map entZ) (clock + 1)), min f b⟩) := by
  have hx : (l.map entZ ++ [({ key := .int .i64 kk, val := z, born := clock } : MapEntry)]).findIdx? (fun en => (en.born : Int) == (clock : Int)) = some l.length := by
    rw [List.findIdx?_append]
    have : (l.map entZ).findIdx? (fun en => (en.born : Int) == (clock : Int)) = none := by
      rw [List.findIdx?_eq_none_iff]
      intro en hen
      obtain ⟨x, hx, rfl⟩ := List.mem_map.1 hen
      have := hbo x hx
      simp [entZ]; omega
    rw [this]
    simp
  simp only [entryStoreS]
  rw [List.getElem?_set_self hb]
  simp only [hx]
  have hm := modify_last (fun en : MapEntry => { en with val := Value.int .i64 vv }) (l.map entZ) { key := .int .i64 kk, val := z, born := clock }
  rw [List.length_map] at hm
  rw [hm, List.set_set]
  simp [entZ]
theorem step_range_ent {x : Operand} {b clock : Nat} {es : List MapEntry} (hx : e x = .map (some b)) (hb : st.h[b]? = some (.map es clock)) :
    step (.range x) e st = some (.val (.pointer (some ⟨st.h.length, 0, none⟩)), { st with h := st.h ++ [.iter (some b) clock [] clock] }) := by
  simp only [step, hx, hb]
end Go.Ai
/- Walks through a map of numbers, in every order. -/
namespace Go.Ai
open Go.RowKit
set_option linter.unusedSimpArgs false
set_option linter.unusedVariables false
variable {E : Env} {e : Operand → Value} {st : St}

def entryVS (st : St) (x : Value) : Option (Res × St) := step (.entry (.tmp 0)) (fun _ => x) st
@[simp] theorem step_entry {it : Operand} : step (.entry it) e st = entryVS st (e it) := rfl
theorem find_ent {l : List (Int × Int × Nat)} {x : Int × Int × Nat} (hp : l.Pairwise fun x y => x.2.2 ≠ y.2.2) (hx : x ∈ l) : (l.map entZ).find? (fun en => en.born == x.2.2) = some (entZ x) := by
  induction l with
  | nil => simp at hx
  | cons y l ih =>
    rw [List.pairwise_cons] at hp
    rw [List.map_cons, List.find?_cons]
    rcases List.mem_cons.1 hx with rfl | hx
    · simp [entZ]
    · have hne : ((entZ y).born == x.2.2) = false := by simpa [entZ] using hp.1 x hx
      rw [hne]; exact ih hp.2 hx
theorem entryVS_ent {h : List O} {f r b since clock : Nat} {seen : List Nat} {l : List (Int × Int × Nat)} {x : Int × Int × Nat} (hr : h[r]? = some (.iter (some b) since seen clock)) (hb : h[b]? = some (.map (l.map entZ) clock))
    (hs : seen.getLast? = some x.2.2) (hp : l.Pairwise fun x y => x.2.2 ≠ y.2.2) (hx : x ∈ l) : entryVS ⟨h, f⟩ (.pointer (some ⟨r, 0, none⟩)) = some (.val (.tuple #[.int .i64 x.1, .int .i64 x.2.1]), ⟨h, f⟩) := by
  have hall : (l.map entZ).all (fun e => plain1 e.key) = true := by
    rw [List.all_map, List.all_eq_true]; intro x _; rfl
  have h2 := find_ent hp hx
  simp only [entryVS, step, hr, hb, hs, hall, if_true, h2]
  rfl
theorem nextC_ent {h : List O} {f r b clock : Nat} {seen : List Nat} {l : List (Int × Int × Nat)} (hr : h[r]? = some (.iter (some b) clock seen clock)) (hb : h[b]? = some (.map (l.map entZ) clock)) :
    nextC (.pointer (some ⟨r, 0, none⟩)) ⟨h, f⟩ = some (r, b, clock, seen, (l.map entZ).filter fun e => !seen.contains e.born) := by
  have hall : (l.map entZ).all (fun e => plain1 e.key) = true := by
    rw [List.all_map, List.all_eq_true]; intro x _; rfl
  have h2 : nextL (l.map entZ) clock clock seen = some ((l.map entZ).filter fun e => !seen.contains e.born) := by simp only [nextL, hall, and_self, if_true]
  simp only [nextC, hr, hb, if_true, h2, Option.map_some]

theorem filter_lt {α : Type} {p q : α → Bool} : ∀ {l : List α}, (∀ x ∈ l, q x = true → p x = true) → (∃ x ∈ l, p x = true ∧ q x = false) → (l.filter q).length < (l.filter p).length
  | [], _, h => by obtain ⟨x, hx, _⟩ := h; simp at hx
  | y :: l, h1, ⟨x, hx, h2, h3⟩ => by
    have hle : (l.filter q).length ≤ (l.filter p).length := by
      clear hx h2 h3
      induction l with
      | nil => simp
      | cons z l ih =>
        have h4 := ih fun x hx => h1 x (by rcases List.mem_cons.1 hx with rfl | hx <;> simp_all)
        have h5 := h1 z (by simp)
        simp only [List.filter_cons]
        cases hq : q z with
        | true => rw [h5 hq]; simpa using h4
        | false => cases p z <;> simp <;> omega
    rcases List.mem_cons.1 hx with rfl | hx
    · simp only [List.filter_cons, h2, h3, if_true]
      simp; omega
    · have ih := filter_lt (l := l) (fun x hx => h1 x (by simp [hx])) ⟨x, hx, h2, h3⟩
      simp only [List.filter_cons]
      cases hq : q y with
      | true => rw [h1 y (by simp) hq]; simpa using ih
      | false => cases p y <;> simp <;> omega

def rangeVS (st : St) (x : Value) : Option (Res × St) := step (.range (.tmp 0)) (fun _ => x) st
@[simp] theorem step_range {x : Operand} : step (.range x) e st = rangeVS st (e x) := rfl
theorem rangeVS_ent {h : List O} {f b clock : Nat} {es : List MapEntry} (hb : h[b]? = some (.map es clock)) : rangeVS ⟨h, f⟩ (.map (some b)) = some (.val (.pointer (some ⟨h.length, 0, none⟩)), ⟨h ++ [.iter (some b) clock [] clock], f⟩) := by
  simp only [rangeVS, step, hb]
/-- A walk through a map, in every order. -/
theorem PW_walk {d1 d2 it i j : Nat} {body : R} {bm r clock f : Nat} {l : List (Int × Int × Nat)} {Q : Post} (hp : l.Pairwise fun x y => x.2.2 ≠ y.2.2) (J : List Nat → Fr → List O → Prop) (hd : d1 ≠ d2) (hfr : f ≤ r)
    (hit : ∀ seen fr h, J seen fr h → get fr it = .pointer (some ⟨r, 0, none⟩) ∧ h[r]? = some (.iter (some bm) clock seen clock) ∧ h[bm]? = some (.map (l.map entZ) clock))
    (hstep : ∀ seen fr h x, J seen fr h → x ∈ l → x.2.2 ∉ seen → DW E body (put (put fr d1 (.tuple #[.bool true, .int .i64 x.1, .int .i64 x.2.1])) d2 (.bool true)) ⟨h.set r (.iter (some bm) clock (seen ++ [x.2.2]) clock), f⟩ (fun e fr' st' => e = .normal ∧ ∃ h', st' = ⟨h', f⟩ ∧ J (seen ++ [x.2.2]) fr' h'))
    (hend : ∀ seen fr h, J seen fr h → (∀ x ∈ l, x.2.2 ∈ seen) → Q .normal (put (put fr d1 (.tuple #[.bool false])) d2 (.bool false)) ⟨h.set r .dead, f⟩)
    {seen : List Nat} {fr : Fr} {h : List O} (h0 : J seen fr h) :
    PW E (.block i (.loop (.seq (.ops false [⟨some d1, none, .next (.tmp it), 0⟩, ⟨some d2, none, .extract (.tmp d1) 0, 0⟩]) (.seq (.cond (.tmp d2) .skip (.exit i)) (.block j body))))) fr ⟨h, f⟩ Q := by
  refine PW_block (PW_loop (fun k fr st => ∃ seen h, k = (l.filter fun x => !seen.contains x.2.2).length ∧ st = ⟨h, f⟩ ∧ J seen fr h) ?_ (k := (l.filter fun x => !seen.contains x.2.2).length) ⟨seen, h, rfl, rfl, h0⟩)
  rintro k fr st ⟨seen, h, rfl, rfl, hJ⟩
  obtain ⟨g, hr, hb⟩ := hit seen fr h hJ
  have hn := nextC_ent (f := f) hr hb
  have hd' : ¬ d1 = d2 := hd
  have hmin : min f r = f := by omega
  have hev : ev fr (.tmp it) = .pointer (some ⟨r, 0, none⟩) := g
  refine PW_seq (PW_ops (PL_next (by rw [hev]; exact hn) (fun he => ?_) (fun en hen => ?_)))
  · refine PL_of_DL ?_
    have hall : ∀ x ∈ l, x.2.2 ∈ seen := fun x hx => by
      refine Classical.byContradiction fun hc => ?_
      have : entZ x ∈ (l.map entZ).filter fun e => !seen.contains e.born := List.mem_filter.2 ⟨List.mem_map.2 ⟨x, hx, rfl⟩, by simpa [entZ] using hc⟩
      rw [he] at this; simp at this
    have := hend seen fr h hJ hall
    simp [nextOver, nextEnd, hmin]
    refine PW_of_DW ?_
    simpa [hd'] using this
  · obtain ⟨hm, hs⟩ := List.mem_filter.1 hen
    obtain ⟨x, hx, rfl⟩ := List.mem_map.1 hm
    have hs' : x.2.2 ∉ seen := by simpa [entZ] using hs
    refine PL_of_DL ?_
    have := hstep seen fr h x hJ hx hs'
    simp [nextTo, hmin, entZ]
    refine PW_of_DW ?_
    simp [hd']
    refine this.imp ?_
    rintro e fr' st' ⟨rfl, h', rfl, hJ'⟩
    refine ⟨_, ?_, seen ++ [x.2.2], rfl, h', rfl, hJ'⟩
    refine filter_lt (fun y _ hy => ?_) ⟨x, hx, by simpa using hs', by simp⟩
    simp at hy ⊢
    exact hy.1
end Go.Ai
