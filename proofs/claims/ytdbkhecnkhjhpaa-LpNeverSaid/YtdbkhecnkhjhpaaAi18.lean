/- Frames, operands, and one operation of a region. -/
import Derived.Test.YtdbkhecnkhjhpaaAi17
import Derived.OrdersIn
namespace Go.Ai
open Go.RowKit
set_option linter.unusedSimpArgs false
set_option linter.unusedVariables false
variable {P : Program} {ρ ρ' : RM} {w w' : World} {D : List Deferred}

theorem get_put (v : Value) : ∀ (fr : Fr) (d i : Nat), get (put fr d v) i = if i = d then v else get fr i := by
  have hnil : ∀ (d i : Nat), get (put [] d v) i = if i = d then v else undef := by
    intro d
    induction d with
    | zero => intro i; cases i <;> simp [put, get]
    | succ d ih =>
      intro i
      cases i with
      | zero => simp [put, get]
      | succ i => simpa [put, get] using ih i
  intro fr
  induction fr with
  | nil => intro d i; rw [hnil]; simp [get]
  | cons x fr ih =>
    intro d i
    cases d with
    | zero => cases i <;> simp [put, get]
    | succ d =>
      cases i with
      | zero => simp [put, get]
      | succ i => simpa [put, get] using ih d i

/-- The frame. -/
structure FRel (D : List Deferred) (ρ : RM) (nt : Nat) (fr : Fr) (a : Act) : Prop where
  size : nt ≤ a.tmps.size
  rel : ∀ i, VRel ρ (get fr i) (a.tmps.getD i undef)
  defers : a.defers = D

theorem FRel.mono {nt : Nat} {fr : Fr} {a : Act} (hρ : ρ.le ρ') (h : FRel D ρ nt fr a) : FRel D ρ' nt fr a := ⟨h.size, fun i => (h.rel i).mono hρ, h.defers⟩
theorem FRel.putD {nt : Nat} {fr : Fr} {a : Act} {d : Option Nat} {v v' : Value} (h : FRel D ρ nt fr a) (hd : ∀ x, d = some x → x < nt) (hv : VRel ρ v v') : FRel D ρ nt (putD fr d v) (a.put d v') := by
  cases d with
  | none => exact h
  | some d =>
    refine ⟨by simpa [Act.put] using h.size, fun i => ?_, h.defers⟩
    show VRel ρ (get (put fr d v) i) ((a.tmps.setIfInBounds d v').getD i undef)
    rw [get_put]
    have hlt : d < a.tmps.size := Nat.lt_of_lt_of_le (hd d rfl) h.size
    by_cases hi : i = d
    · subst hi
      simp [hlt, hv]
    · have : (a.tmps.setIfInBounds d v').getD i undef = a.tmps.getD i undef := by
        simp only [Array.getD_eq_getD_getElem?]
        rw [Array.getElem?_setIfInBounds_ne (by omega)]
      rw [if_neg hi, this]
      exact h.rel i

theorem ev_rel {nt : Nat} {fr : Fr} {a : Act} (h : FRel D ρ nt fr a) {x : Operand} (hx : okO x = true) : VRel ρ (ev fr x) (a.eval x) := by
  cases x with
  | tmp t => exact h.rel t
  | const v => exact plain_rel hx
  | global g => simp [okO] at hx
  | func f => exact .func (xs := []) (ys := []) rfl fun i a b h => by simp at h

theorem cop_okO {o : Oper} {r : ROp} (hc : cop P o = some r) : ∀ x ∈ o.op.operands, okO x = true := by
  unfold cop at hc
  split at hc
  · cases hc
  · rename_i h
    simp only [Bool.not_eq_true', Bool.not_eq_false] at h
    exact Array.all_eq_true_iff_forall_mem.1 h

theorem given_of {nt : Nat} {fr : Fr} {a : Act} {o : Oper} {r : ROp} (hc : cop P o = some r) (h : FRel D ρ nt fr a) : Given ρ o.op (ev fr) a.eval :=
  ⟨fun x hx => ev_rel h (cop_okO hc x hx), fun _ => rfl, fun _ => rfl⟩

/-- The operands whose blocks are looked at. -/
def fpOps : ROp → List Operand
  | .load _ a => [a]
  | .store _ a _ => [a]
  | .lookup _ _ _ x _ _ => [x]
  | .mapUpd _ _ m _ _ => [m]
  | .mapEntry _ _ _ m _ => [m]
  | .entryStore m _ _ => [m]
  | .delete _ _ m _ => [m]
  | .range x => [x]
  | .next it => [it]
  | .entry it => [it]
  | .len _ x => [x]
  | .slice _ x _ _ _ => [x]
  | .append _ _ _ s x => [s, x]
  | .appendZ _ _ _ _ s _ => [s]
  | .copy _ d s => [d, s]
  | .call f args => f :: args
  | _ => []

theorem cop_fpOps {o : Oper} {r : ROp} (hc : cop P o = some r) : ∀ x ∈ fpOps r, x ∈ o.op.operands := by
  unfold cop at hc
  split at hc
  · cases hc
  cases hop : o.op <;> simp only [hop] at hc
  case makeFunc fn a b => cases fn <;> (try simp only at hc) <;> (repeat' split at hc) <;> simp at hc <;> (subst hc; simp [fpOps])
  case makeMap t r => cases r <;> simp at hc <;> (subst hc; simp [fpOps])
  case next it b => cases b <;> simp at hc <;> (subst hc; simp [fpOps, Op.operands])
  case typeAssert a b c d => cases d <;> (try simp only at hc) <;> (repeat' split at hc) <;> simp [Option.map_eq_some_iff] at hc <;> (obtain ⟨_, _, rfl⟩ := hc; simp [fpOps])
  case build => unfold cbuild at hc; (repeat' split at hc) <;> simp [Option.map_eq_some_iff] at hc <;> (obtain ⟨_, _, rfl⟩ := hc; simp [fpOps])
  case binOp => unfold cbin at hc; (repeat' split at hc) <;> simp at hc <;> (try (subst hc; simp [fpOps])) <;> (obtain ⟨_, rfl⟩ := hc; simp [fpOps])
  case call c =>
    obtain ⟨callee, args, argTypes⟩ := c
    cases callee <;> (try simp only at hc)
    case value f =>
      simp at hc
      subst hc
      intro x hx
      simp [fpOps] at hx
      simp [Op.operands, Call.operands]
      exact hx
    case invoke => simp at hc
    case builtin b =>
      cases b <;> (try simp only at hc) <;> (repeat' split at hc) <;> simp [Option.map_eq_some_iff] at hc
      all_goals first
        | (subst hc; intro y hy; simp only [Op.operands, Call.operands]; refine Array.mem_append.2 (.inr (Array.mem_toList_iff.1 ?_)); simp_all [fpOps]; done)
        | (obtain ⟨_, rfl⟩ := hc; intro y hy; simp only [Op.operands, Call.operands]; refine Array.mem_append.2 (.inr (Array.mem_toList_iff.1 ?_)); simp_all [fpOps]; done)
        | (obtain ⟨_, ⟨_, rfl⟩ | ⟨_, rfl⟩⟩ := hc <;> (intro y hy; simp only [Op.operands, Call.operands]; refine Array.mem_append.2 (.inr (Array.mem_toList_iff.1 ?_)); simp_all [fpOps]; done))
  all_goals ((repeat' split at hc) <;> simp [Option.map_eq_some_iff] at hc)
  all_goals first
    | (subst hc; simp [fpOps, Op.operands]; done)
    | (obtain ⟨_, rfl⟩ := hc; simp [fpOps, Op.operands]; done)
    | (obtain ⟨_, _, rfl⟩ := hc; simp [fpOps, Op.operands]; done)
    | (obtain ⟨_, _, _, rfl⟩ := hc; simp [fpOps, Op.operands]; done)
    | (obtain ⟨_, ⟨_, rfl⟩ | ⟨_, rfl⟩⟩ := hc <;> (simp [fpOps, Op.operands]; done))

theorem blk_known {v v' : Value} (h : VRel ρ v v') {b : Nat} (hb : b ∈ blk v) : ∃ L, ρ b = some L := by
  cases v with
  | pointer a =>
    cases a with
    | none => simp [blk] at hb
    | some a =>
      obtain ⟨x, y, sp⟩ := a
      cases sp with
      | some sp => simp [blk] at hb
      | none =>
        simp [blk] at hb
        subst hb
        obtain ⟨L, hL, _⟩ := h.inv_ptr
        exact ⟨L, hL⟩
  | slice a n c =>
    cases a with
    | none => simp [blk] at hb
    | some a =>
      obtain ⟨x, y, sp⟩ := a
      cases sp with
      | some sp => simp [blk] at hb
      | none =>
        simp [blk] at hb
        subst hb
        obtain ⟨L, _, _, hL, _⟩ := h.inv_slice
        exact ⟨L, hL⟩
  | map m =>
    cases m with
    | none => simp [blk] at hb
    | some m =>
      simp [blk] at hb
      subst hb
      obtain ⟨L, hL, _⟩ := h.inv_map
      exact ⟨L, hL⟩
  | _ => simp [blk] at hb

theorem iterMap_known {h : List O} {l : List Nat} (hl : ∀ b ∈ l, ∃ L, ρ b = some L) (hr : ∀ id ∈ l, ∀ L, ρ id = some L → CRel ρ w L (hp h id)) : ∀ b ∈ iterMap h l, ∃ L, ρ b = some L := by
  intro b hb
  unfold iterMap at hb
  split at hb
  · rename_i r
    split at hb
    · rename_i m since seen stepped hi
      obtain ⟨L, hL⟩ := hl r (by simp)
      simp at hb
      rcases hb with rfl | rfl
      · exact ⟨L, hL⟩
      · have := hr r (by simp) L hL
        rw [hp_some hi] at this
        obtain ⟨_, m', _, k, hk, _⟩ := this
        exact ⟨k, hk⟩
    · exact hl b hb
  · exact hl b hb

/-- The blocks that an operation looks at are known. -/
theorem fp_known {r : ROp} {e e' : Operand → Value} {st : St} (hx : ∀ x ∈ fpOps r, VRel ρ (e x) (e' x)) (hr : ∀ b ∈ (fpOps r).flatMap (fun x => blk (e x)), ∀ L, ρ b = some L → CRel ρ w L (hp st.h b)) :
    ∀ b ∈ (fpOf r e st).r ++ (fpOf r e st).w, ∃ L, ρ b = some L := by
  have one : ∀ x ∈ fpOps r, ∀ b ∈ blk (e x), ∃ L, ρ b = some L := fun x hx' b hb => blk_known (hx x hx') hb
  intro b hb
  cases r <;> simp only [fpOf, List.append_nil, List.nil_append, List.mem_append, List.not_mem_nil, or_false, false_or] at hb
  all_goals first
    | (cases hb; done)
    | exact one _ (by simp [fpOps]) b hb
    | (rcases hb with hb | hb <;> exact one _ (by simp [fpOps]) b hb)
    | skip
  case next it =>
    rcases hb with hb | hb
    · exact iterMap_known (one it (by simp [fpOps])) (fun id hid => hr id (by simpa [fpOps] using hid)) b hb
    · exact one it (by simp [fpOps]) b hb
  case entry it =>
    exact iterMap_known (one it (by simp [fpOps])) (fun id hid => hr id (by simpa [fpOps] using hid)) b hb

theorem hp_sees {h : List O} {bs : List Nat} (hk : ∀ b ∈ bs, ∃ L, ρ b = some L) (hr : ∀ b ∈ bs, ∀ L, ρ b = some L → CRel ρ w L (hp h b)) : Sees ρ w h bs := fun b hb o ho => by
  obtain ⟨L, hL⟩ := hk b hb
  have := hr b hb L hL
  rw [hp_some ho] at this
  exact ⟨L, hL, this⟩

/-- What the machine is asked of. -/
structure Open (F : Fence) : Prop where
  fn : ∀ f, F.fn f
  depth : F.depth = none

theorem cop_noDefer {o : Oper} {r : ROp} (hc : cop P o = some r) : ∀ c, o.op ≠ .defer c := by
  intro c hop
  unfold cop at hc
  split at hc
  · cases hc
  · simp [hop] at hc

theorem wpIn_of_run {F : Fence} (hF : Open F) {n : Nat} {o : Oper} {r : ROp} {a : Act} {next : Act → World → Prop} {Q : Exit → Act → World → Prop} (hc : cop P o = some r)
    (h : o.uponIn F n P a next Q ((execOp a.eval o).run P w)) : o.wpIn F n P a w next Q := by
  refine ⟨fun f _ => hF.fn f, ?_⟩
  rw [Oper.semAt_eq _ _ _ (cop_noDefer hc)]
  exact h

/-- How a way out stands to the machine's. -/
def XRel (ρ : RM) : Ex → Exit → Prop
  | .normal, .normal => True
  | .exit i, .exit j => i = j
  | .ret, .ret => True
  | .pan v, .panic chain => ∃ v', VRel ρ v v' ∧ chain = [{ v := v', recovered := false }]
  | _, _ => False

def CPost (B : Nat) (ρ : RM) (w : World) (st : St) (Q : Out → St → Prop) : Ending → World → Prop
  | .returned v', w' => ∃ v st' ρ', Q (.ret v) st' ∧ VRel ρ' v v' ∧ SRel B ρ' w' st' ∧ Ran B ρ ρ' w w' st st'
  | .panicked chain, w' => ∃ v v' st' ρ', Q (.pan v) st' ∧ VRel ρ' v v' ∧ chain = [{ v := v', recovered := false }] ∧ SRel B ρ' w' st' ∧ Ran B ρ ρ' w w' st st'
  | .outgrown, _ => False

theorem SRel.step {B : Nat} {st st' : St} {v : Value} {wr : List Nat} {run : Result Next} (hS : SRel B ρ w st) (h : StepOk ρ w st st' v wr run) (hk : ∀ b ∈ wr, ∃ L, ρ b = some L) (hro : RoKept st.h st'.h) :
    ∃ ρ' v' w', (run = .ok (.value v') w' ∨ (run = .ok .skip w' ∧ v' = undef)) ∧ VRel ρ' v v' ∧ SRel B ρ' w' st' ∧ Ran B ρ ρ' w w' st st' := by
  obtain ⟨⟨ws, ⟨ρ', v', w', hrun, heff, hv⟩, hws⟩, hfl, hlen, hown⟩ := h
  have hws' : ∀ k ∈ ws, ∃ o, st.h[k]? = some o ∧ o.own = true := fun k hk => (hws k hk).2.2
  have hmem := hS.mem.step heff hws' (fun _ _ => rfl) (fun k hk' => hk k (hws k hk').1) hlen hown hro
  rw [touched_hp heff hws'] at hmem
  have hran := Ran.of_step hS.mem heff (fun k hk => by
    obtain ⟨o, ho, hoo⟩ := hws' k hk
    rw [hp_some ho]; exact hoo) (fun k hk => (hws k hk).2.1) hfl
  exact ⟨ρ', v', w', hrun, hv, ⟨hmem, hS.full.ran hran⟩, hran⟩

theorem uponIn_step {F : Fence} {n : Nat} {o : Oper} {a : Act} {next : Act → World → Prop} {Q : Exit → Act → World → Prop} {run : Result Next} {v' : Value} (hrun : run = .ok (.value v') w' ∨ (run = .ok .skip w' ∧ v' = undef)) (h : next (a.put o.dst v') w') :
    o.uponIn F n P a next Q run := by
  rcases hrun with rfl | ⟨rfl, rfl⟩ <;> exact h

end Go.Ai
