/- Weakest conditions over the abstract run: the rules by which a run is told. -/
import Derived.Test.YtdbkhecnkhjhpaaAi18
namespace Go.Ai
set_option linter.unusedSimpArgs false
set_option linter.unusedVariables false
variable {E : Env}

/-! ### More fuel does no harm -/
theorem doCall_mono {c c' : CallF} (h : ∀ f a st x, c f a st = some x → c' f a st = some x) {f : Operand} {args : List Operand} {e : Operand → Value} {st : St} {x : Out × St} (hx : doCall c f args e st = some x) : doCall c' f args e st = some x := by
  unfold doCall at hx ⊢
  split at hx
  · rename_i g vs ht; exact h _ _ _ _ hx
  · cases hx

theorem runOps_mono {c c' : CallF} (h : ∀ f a st x, c f a st = some x → c' f a st = some x) : ∀ (l : List ROper) (fr : Fr) (st : St) x, runOps c l fr st = some x → runOps c' l fr st = some x := by
  intro l
  induction l with
  | nil => intro fr st x hx; exact hx
  | cons o os ih =>
    intro fr st x hx
    simp only [runOps] at hx ⊢
    split at hx
    · rename_i hw
      rw [if_pos hw]
      cases hop : o.op <;> simp only [hop] at hx ⊢
      case call f args =>
        split at hx
        · rename_i v st1 hc; rw [doCall_mono h hc]; exact ih _ _ _ hx
        · rename_i v st1 hc; rw [doCall_mono h hc]; exact hx
        · cases hx
      all_goals
        split at hx
        · rename_i v st1 hs; first | exact ih _ _ _ hx | (rw [hs]; exact ih _ _ _ hx)
        · rename_i v st1 hs; first | exact hx | (rw [hs]; exact hx)
        · cases hx
    · rename_i hw
      rw [if_neg hw]
      exact ih _ _ _ hx

theorem opD_mono {c c' : CallF} (h : ∀ f a st x, c f a st = some x → c' f a st = some x) {o : ROp} {e : Operand → Value} {st : St} {x : Value × St × FP} (hx : opD c o e st = some x) : opD c' o e st = some x := by
  cases o <;> simp only [opD] at hx ⊢
  case call f args =>
    split at hx
    · rename_i v st1 hc; rw [doCall_mono h hc]; exact hx
    · cases hx
  all_goals exact hx

theorem runOpsD_mono {c c' : CallF} (h : ∀ f a st x, c f a st = some x → c' f a st = some x) : ∀ (l : List ROper) (i : Nat) (acc : List (Nat × FP)) (fr : Fr) (st : St) x, runOpsD c i acc l fr st = some x → runOpsD c' i acc l fr st = some x := by
  intro l
  induction l with
  | nil => intro i acc fr st x hx; exact hx
  | cons o os ih =>
    intro i acc fr st x hx
    simp only [runOpsD] at hx ⊢
    split at hx
    · rename_i hw
      rw [if_pos hw]
      split at hx
      · rename_i v st1 fp hs
        rw [opD_mono h hs]
        simp only
        split at hx
        · cases hx
        · rename_i hcl
          rw [if_neg hcl]
          exact ih _ _ _ _ _ hx
      · cases hx
    · rename_i hw
      rw [if_neg hw]
      exact ih _ _ _ _ _ hx

theorem exec_succ : ∀ (n : Nat) (r : R) (fr : Fr) (st : St) x, exec E n r fr st = some x → exec E (n + 1) r fr st = some x := by
  intro n
  induction n with
  | zero => intro r fr st x h; simp [exec] at h
  | succ n ih =>
    have hcall : ∀ f a st x, callSig E.S (callOf E.F (exec E n)) f a st = some x → callSig E.S (callOf E.F (exec E (n + 1))) f a st = some x := by
      intro f a st x hx
      unfold callSig at hx ⊢
      split at hx
      · exact hx
      · unfold callOf at hx ⊢
        split at hx
        · cases hx
        · rename_i rf hrf
          try simp only
          split at hx
          · rename_i fr1 st1 h1; rw [ih _ _ _ _ h1]; exact hx
          · rename_i fr1 st1 h1; rw [ih _ _ _ _ h1]; exact hx
          · rename_i v fr1 st1 h1; rw [ih _ _ _ _ h1]; exact hx
          · cases hx
    intro r fr st x h
    cases r with
    | skip => exact h
    | exit id => exact h
    | ret => exact h
    | seq a b =>
      rw [exec] at h ⊢
      split at h
      · rename_i fr1 st1 h1
        rw [ih _ _ _ _ h1]
        exact ih _ _ _ _ h
      · rename_i r' hne
        rw [ih _ _ _ _ h]
        obtain ⟨e, fr', st'⟩ := x
        cases e with
        | normal => exact absurd h (hne fr' st')
        | _ => rfl
    | cond c t el =>
      rw [exec] at h ⊢
      split at h
      · rename_i b hb
        try simp only
        split at h
        · rename_i hbt; rw [if_pos hbt]; exact ih _ _ _ _ h
        · rename_i hbt; rw [if_neg hbt]; exact ih _ _ _ _ h
      · cases h
    | block id b =>
      rw [exec] at h ⊢
      split at h
      · rename_i id' fr1 st1 h1
        rw [ih _ _ _ _ h1]
        exact h
      · rename_i r' hne
        rw [ih _ _ _ _ h]
        obtain ⟨e, fr', st'⟩ := x
        cases e with
        | exit id' => exact absurd h (hne id' fr' st')
        | _ => rfl
    | loop b =>
      rw [exec] at h ⊢
      split at h
      · rename_i fr1 st1 h1
        rw [ih _ _ _ _ h1]
        exact ih _ _ _ _ h
      · rename_i r' hne
        rw [ih _ _ _ _ h]
        obtain ⟨e, fr', st'⟩ := x
        cases e with
        | normal => exact absurd h (hne fr' st')
        | _ => rfl
    | ops d l =>
      cases d with
      | false => rw [exec] at h ⊢; exact runOps_mono hcall _ _ _ _ h
      | true => rw [exec] at h ⊢; exact runOpsD_mono hcall _ _ _ _ _ _ h

theorem exec_mono {n m : Nat} (hnm : n ≤ m) {r : R} {fr : Fr} {st : St} {x} (h : exec E n r fr st = some x) : exec E m r fr st = some x := by
  induction hnm with
  | refl => exact h
  | step _ ih => exact exec_succ _ _ _ _ _ ih

theorem call_mono {n m : Nat} (hnm : n ≤ m) {f : FuncId} {args : List Value} {st : St} {x} (h : call E n f args st = some x) : call E m f args st = some x := by
  unfold call callSig at h ⊢
  split at h
  · exact h
  · unfold callOf at h ⊢
    split at h
    · cases h
    · rename_i rf hrf
      try simp only
      split at h
      · rename_i fr1 st1 h1; rw [exec_mono hnm h1]; exact h
      · rename_i fr1 st1 h1; rw [exec_mono hnm h1]; exact h
      · rename_i v fr1 st1 h1; rw [exec_mono hnm h1]; exact h
      · cases h

/-! ### What a run comes to -/
abbrev Post := Ex → Fr → St → Prop
/-- The run of a piece of code ends, and what it comes to is such. -/
def DW (E : Env) (r : R) (fr : Fr) (st : St) (Q : Post) : Prop := ∃ n e fr' st', exec E n r fr st = some (e, fr', st') ∧ Q e fr' st'
def DL (E : Env) (l : List ROper) (fr : Fr) (st : St) (Q : Post) : Prop := ∃ n e fr' st', runOps (call E n) l fr st = some (e, fr', st') ∧ Q e fr' st'
def DD (E : Env) (i : Nat) (acc : List (Nat × FP)) (l : List ROper) (fr : Fr) (st : St) (Q : Post) : Prop := ∃ n e fr' st', runOpsD (call E n) i acc l fr st = some (e, fr', st') ∧ Q e fr' st'
/-- A call returns this, and leaves that memory. -/
def DR (E : Env) (f : FuncId) (args : List Value) (st : St) (o : Out) (st' : St) : Prop := ∃ n, call E n f args st = some (o, st')
def DC (E : Env) (f : FuncId) (args : List Value) (st : St) (Q : Out → St → Prop) : Prop := ∃ o st', DR E f args st o st' ∧ Q o st'

def seqK (E : Env) (b : R) (Q : Post) : Post
  | .normal, fr, st => DW E b fr st Q
  | .exit i, fr, st => Q (.exit i) fr st
  | .ret, fr, st => Q .ret fr st
  | .pan v, fr, st => Q (.pan v) fr st
def blockK (id : Nat) (Q : Post) : Post
  | .normal, fr, st => Q .normal fr st
  | .exit i, fr, st => if i = id then Q .normal fr st else Q (.exit i) fr st
  | .ret, fr, st => Q .ret fr st
  | .pan v, fr, st => Q (.pan v) fr st
def endK (res : List RRes) (st : St) (Q : Out → St → Prop) : Post
  | .normal, fr, st' => ∃ v, resV fr st'.h res = some v ∧ Q (back st (.ret v) st').1 (back st (.ret v) st').2
  | .ret, fr, st' => ∃ v, resV fr st'.h res = some v ∧ Q (back st (.ret v) st').1 (back st (.ret v) st').2
  | .pan v, _, st' => Q (back st (.pan v) st').1 (back st (.pan v) st').2
  | .exit _, _, _ => False
def callK (E : Env) (dst : Option Nat) (os : List ROper) (fr : Fr) (st : St) (Q : Post) : Out → St → Prop
  | .ret v, st' => DL E os (putD fr dst v) (joined st st') Q
  | .pan v, st' => Q (.pan v) fr (joined st st')

@[simp] theorem seqK_normal {b : R} {Q : Post} {fr st} : seqK E b Q .normal fr st ↔ DW E b fr st Q := Iff.rfl
@[simp] theorem seqK_exit {b : R} {Q : Post} {fr st i} : seqK E b Q (.exit i) fr st ↔ Q (.exit i) fr st := Iff.rfl
@[simp] theorem seqK_ret {b : R} {Q : Post} {fr st} : seqK E b Q .ret fr st ↔ Q .ret fr st := Iff.rfl
@[simp] theorem seqK_pan {b : R} {Q : Post} {fr st v} : seqK E b Q (.pan v) fr st ↔ Q (.pan v) fr st := Iff.rfl
@[simp] theorem blockK_normal {id : Nat} {Q : Post} {fr st} : blockK id Q .normal fr st ↔ Q .normal fr st := Iff.rfl
@[simp] theorem blockK_exit {id : Nat} {Q : Post} {fr st i} : blockK id Q (.exit i) fr st ↔ if i = id then Q .normal fr st else Q (.exit i) fr st := Iff.rfl
@[simp] theorem blockK_ret {id : Nat} {Q : Post} {fr st} : blockK id Q .ret fr st ↔ Q .ret fr st := Iff.rfl
@[simp] theorem blockK_pan {id : Nat} {Q : Post} {fr st v} : blockK id Q (.pan v) fr st ↔ Q (.pan v) fr st := Iff.rfl
theorem endK_normal {res : List RRes} {st st' : St} {Q : Out → St → Prop} {fr} : endK res st Q .normal fr st' ↔ ∃ v, resV fr st'.h res = some v ∧ Q (back st (.ret v) st').1 (back st (.ret v) st').2 := Iff.rfl
theorem endK_ret {res : List RRes} {st st' : St} {Q : Out → St → Prop} {fr} : endK res st Q .ret fr st' ↔ ∃ v, resV fr st'.h res = some v ∧ Q (back st (.ret v) st').1 (back st (.ret v) st').2 := Iff.rfl
theorem endK_pan {res : List RRes} {st st' : St} {Q : Out → St → Prop} {fr v} : endK res st Q (.pan v) fr st' ↔ Q (back st (.pan v) st').1 (back st (.pan v) st').2 := Iff.rfl
@[simp] theorem callK_ret {dst : Option Nat} {os : List ROper} {fr : Fr} {st st' : St} {Q : Post} {v} : callK E dst os fr st Q (.ret v) st' ↔ DL E os (putD fr dst v) (joined st st') Q := Iff.rfl
@[simp] theorem callK_pan {dst : Option Nat} {os : List ROper} {fr : Fr} {st st' : St} {Q : Post} {v} : callK E dst os fr st Q (.pan v) st' ↔ Q (.pan v) fr (joined st st') := Iff.rfl

theorem DW.imp {r : R} {fr st} {Q Q' : Post} (h : DW E r fr st Q) (k : ∀ e fr st, Q e fr st → Q' e fr st) : DW E r fr st Q' := by
  obtain ⟨n, e, fr', st', h1, h2⟩ := h; exact ⟨n, e, fr', st', h1, k _ _ _ h2⟩
theorem DC.imp {f : FuncId} {args st} {Q Q' : Out → St → Prop} (h : DC E f args st Q) (k : ∀ o st, Q o st → Q' o st) : DC E f args st Q' := by
  obtain ⟨o, st', h1, h2⟩ := h; exact ⟨o, st', h1, k _ _ h2⟩
theorem DR.unique {f : FuncId} {args st o st' o2 st2} (h : DR E f args st o st') (k : DR E f args st o2 st2) : o = o2 ∧ st' = st2 := by
  obtain ⟨n, h⟩ := h; obtain ⟨m, k⟩ := k
  have h1 := call_mono (Nat.le_max_left n m) h
  have k1 := call_mono (Nat.le_max_right n m) k
  rw [h1] at k1
  simpa using k1
theorem DC_of {f : FuncId} {args st o st'} (h : DR E f args st o st') {Q : Out → St → Prop} : DC E f args st Q ↔ Q o st' :=
  ⟨fun ⟨o2, st2, h1, h2⟩ => by obtain ⟨rfl, rfl⟩ := h.unique h1; exact h2, fun hq => ⟨o, st', h, hq⟩⟩
theorem DR_of {f : FuncId} {args st o st'} (h : DC E f args st fun o2 st2 => o2 = o ∧ st2 = st') : DR E f args st o st' := by
  obtain ⟨o2, st2, h1, rfl, rfl⟩ := h; exact h1

@[simp] theorem DW_skip {fr st} {Q : Post} : DW E .skip fr st Q ↔ Q .normal fr st := by
  constructor
  · rintro ⟨n, e, fr', st', h, hq⟩
    cases n with
    | zero => simp [exec] at h
    | succ n => simp only [exec, Option.some.injEq, Prod.mk.injEq] at h; obtain ⟨rfl, rfl, rfl⟩ := h; exact hq
  · intro h; exact ⟨1, _, _, _, rfl, h⟩
@[simp] theorem DW_exit {id fr st} {Q : Post} : DW E (.exit id) fr st Q ↔ Q (.exit id) fr st := by
  constructor
  · rintro ⟨n, e, fr', st', h, hq⟩
    cases n with
    | zero => simp [exec] at h
    | succ n => simp only [exec, Option.some.injEq, Prod.mk.injEq] at h; obtain ⟨rfl, rfl, rfl⟩ := h; exact hq
  · intro h; exact ⟨1, _, _, _, rfl, h⟩
@[simp] theorem DW_ret {fr st} {Q : Post} : DW E .ret fr st Q ↔ Q .ret fr st := by
  constructor
  · rintro ⟨n, e, fr', st', h, hq⟩
    cases n with
    | zero => simp [exec] at h
    | succ n => simp only [exec, Option.some.injEq, Prod.mk.injEq] at h; obtain ⟨rfl, rfl, rfl⟩ := h; exact hq
  · intro h; exact ⟨1, _, _, _, rfl, h⟩
@[simp] theorem DW_seq {a b : R} {fr st} {Q : Post} : DW E (.seq a b) fr st Q ↔ DW E a fr st (seqK E b Q) := by
  constructor
  · rintro ⟨n, e, fr', st', h, hq⟩
    cases n with
    | zero => simp [exec] at h
    | succ n =>
      rw [exec] at h
      split at h
      · rename_i fr1 st1 h1
        exact ⟨n, _, _, _, h1, n, _, _, _, h, hq⟩
      · rename_i r' hne
        refine ⟨n, _, _, _, h, ?_⟩
        cases e with
        | normal => exact absurd h (hne fr' st')
        | _ => exact hq
  · rintro ⟨n, e, fr', st', h, hq⟩
    cases e with
    | normal =>
      obtain ⟨m, e2, fr2, st2, h2, hq2⟩ := hq
      refine ⟨max n m + 1, e2, fr2, st2, ?_, hq2⟩
      rw [exec, exec_mono (Nat.le_max_left n m) h]
      exact exec_mono (Nat.le_max_right n m) h2
    | _ =>
      refine ⟨n + 1, _, fr', st', ?_, hq⟩
      rw [exec, h]
theorem DW_cond {c : Operand} {t el : R} {fr st} {Q : Post} : DW E (.cond c t el) fr st Q ↔ ∃ b, ev fr c = .bool b ∧ (b = true → DW E t fr st Q) ∧ (b = false → DW E el fr st Q) := by
  constructor
  · rintro ⟨n, e, fr', st', h, hq⟩
    cases n with
    | zero => simp [exec] at h
    | succ n =>
      rw [exec] at h
      split at h
      · rename_i b hb
        refine ⟨b, hb, fun h1 => ?_, fun h1 => ?_⟩
        · subst h1; exact ⟨n, _, _, _, by simpa using h, hq⟩
        · subst h1; exact ⟨n, _, _, _, by simpa using h, hq⟩
      · cases h
  · rintro ⟨b, hb, h1, h2⟩
    cases b with
    | true =>
      obtain ⟨n, e, fr', st', h, hq⟩ := h1 rfl
      exact ⟨n + 1, e, fr', st', by rw [exec, hb]; simpa using h, hq⟩
    | false =>
      obtain ⟨n, e, fr', st', h, hq⟩ := h2 rfl
      exact ⟨n + 1, e, fr', st', by rw [exec, hb]; simpa using h, hq⟩
@[simp] theorem DW_block {id : Nat} {b : R} {fr st} {Q : Post} : DW E (.block id b) fr st Q ↔ DW E b fr st (blockK id Q) := by
  constructor
  · rintro ⟨n, e, fr', st', h, hq⟩
    cases n with
    | zero => simp [exec] at h
    | succ n =>
      rw [exec] at h
      split at h
      · rename_i id' fr1 st1 h1
        refine ⟨n, _, _, _, h1, ?_⟩
        split at h
        · rename_i hid
          simp only [Option.some.injEq, Prod.mk.injEq] at h
          obtain ⟨rfl, rfl, rfl⟩ := h
          simp [hid]; exact hq
        · rename_i hid
          simp only [Option.some.injEq, Prod.mk.injEq] at h
          obtain ⟨rfl, rfl, rfl⟩ := h
          simp [hid]; exact hq
      · rename_i r' hne
        refine ⟨n, _, _, _, h, ?_⟩
        cases e with
        | exit id' => exact absurd h (hne id' fr' st')
        | _ => exact hq
  · rintro ⟨n, e, fr', st', h, hq⟩
    cases e with
    | exit id' =>
      simp only [blockK_exit] at hq
      by_cases hid : id' = id
      · rw [if_pos hid] at hq
        exact ⟨n + 1, _, _, _, by rw [exec, h]; simp [hid], hq⟩
      · rw [if_neg hid] at hq
        exact ⟨n + 1, _, _, _, by rw [exec, h]; simp [hid], hq⟩
    | _ => exact ⟨n + 1, _, _, _, by rw [exec, h], hq⟩
theorem DW_loop_unfold {b : R} {fr st} {Q : Post} : DW E (.loop b) fr st Q ↔ DW E b fr st (seqK E (.loop b) Q) := by
  constructor
  · rintro ⟨n, e, fr', st', h, hq⟩
    cases n with
    | zero => simp [exec] at h
    | succ n =>
      rw [exec] at h
      split at h
      · rename_i fr1 st1 h1
        exact ⟨n, _, _, _, h1, n, _, _, _, h, hq⟩
      · rename_i r' hne
        refine ⟨n, _, _, _, h, ?_⟩
        cases e with
        | normal => exact absurd h (hne fr' st')
        | _ => exact hq
  · rintro ⟨n, e, fr', st', h, hq⟩
    cases e with
    | normal =>
      obtain ⟨m, e2, fr2, st2, h2, hq2⟩ := hq
      refine ⟨max n m + 1, e2, fr2, st2, ?_, hq2⟩
      rw [exec, exec_mono (Nat.le_max_left n m) h]
      exact exec_mono (Nat.le_max_right n m) h2
    | _ =>
      refine ⟨n + 1, _, fr', st', ?_, hq⟩
      rw [exec, h]
/-- A round's way on. -/
def roundK (I : Nat → Fr → St → Prop) (k : Nat) (Q : Post) : Post
  | .normal, fr, st => ∃ k', k' < k ∧ I k' fr st
  | .exit i, fr, st => Q (.exit i) fr st
  | .ret, fr, st => Q .ret fr st
  | .pan v, fr, st => Q (.pan v) fr st
@[simp] theorem roundK_normal {I : Nat → Fr → St → Prop} {k : Nat} {Q : Post} {fr st} : roundK I k Q .normal fr st ↔ ∃ k', k' < k ∧ I k' fr st := Iff.rfl
@[simp] theorem roundK_exit {I : Nat → Fr → St → Prop} {k : Nat} {Q : Post} {fr st i} : roundK I k Q (.exit i) fr st ↔ Q (.exit i) fr st := Iff.rfl
@[simp] theorem roundK_ret {I : Nat → Fr → St → Prop} {k : Nat} {Q : Post} {fr st} : roundK I k Q .ret fr st ↔ Q .ret fr st := Iff.rfl
@[simp] theorem roundK_pan {I : Nat → Fr → St → Prop} {k : Nat} {Q : Post} {fr st v} : roundK I k Q (.pan v) fr st ↔ Q (.pan v) fr st := Iff.rfl
theorem DW_loop (I : Nat → Fr → St → Prop) {b : R} {Q : Post} (hI : ∀ k fr st, I k fr st → DW E b fr st (roundK I k Q)) {k : Nat} {fr st} (h : I k fr st) : DW E (.loop b) fr st Q := by
  induction k using Nat.strongRecOn generalizing fr st with
  | ind k ih =>
    rw [DW_loop_unfold]
    refine (hI k fr st h).imp fun e fr' st' hq => ?_
    cases e with
    | normal => obtain ⟨k', hk, hi⟩ := hq; exact ih k' hk hi
    | _ => exact hq

theorem DW_ops {l : List ROper} {fr st} {Q : Post} : DW E (.ops false l) fr st Q ↔ DL E l fr st Q := by
  constructor
  · rintro ⟨n, e, fr', st', h, hq⟩
    cases n with
    | zero => simp [exec] at h
    | succ n => exact ⟨n, _, _, _, h, hq⟩
  · rintro ⟨n, e, fr', st', h, hq⟩; exact ⟨n + 1, _, _, _, h, hq⟩
theorem DW_opsD {l : List ROper} {fr st} {Q : Post} : DW E (.ops true l) fr st Q ↔ DD E 0 [] l fr st Q := by
  constructor
  · rintro ⟨n, e, fr', st', h, hq⟩
    cases n with
    | zero => simp [exec] at h
    | succ n => exact ⟨n, _, _, _, h, hq⟩
  · rintro ⟨n, e, fr', st', h, hq⟩; exact ⟨n + 1, _, _, _, h, hq⟩
attribute [simp] DW_ops

/-- One operation that is no call. -/
def stepW (op : ROp) (e : Operand → Value) (st : St) (Q : Res → St → Prop) : Prop := ∃ r st', step op e st = some (r, st') ∧ Q r st'
def isCall : ROp → Bool
  | .call _ _ => true
  | _ => false
def stepK (E : Env) (dst : Option Nat) (os : List ROper) (fr : Fr) (Q : Post) : Res → St → Prop
  | .val v, st' => DL E os (putD fr dst v) st' Q
  | .pan v, st' => Q (.pan v) fr st'
@[simp] theorem stepK_val {dst : Option Nat} {os : List ROper} {fr : Fr} {st' : St} {Q : Post} {v} : stepK E dst os fr Q (.val v) st' ↔ DL E os (putD fr dst v) st' Q := Iff.rfl
@[simp] theorem stepK_pan {dst : Option Nat} {os : List ROper} {fr : Fr} {st' : St} {Q : Post} {v} : stepK E dst os fr Q (.pan v) st' ↔ Q (.pan v) fr st' := Iff.rfl

@[simp] theorem DL_nil {fr st} {Q : Post} : DL E [] fr st Q ↔ Q .normal fr st := by
  constructor
  · rintro ⟨n, e, fr', st', h, hq⟩
    simp only [runOps, Option.some.injEq, Prod.mk.injEq] at h; obtain ⟨rfl, rfl, rfl⟩ := h; exact hq
  · intro h; exact ⟨0, _, _, _, rfl, h⟩
theorem DL_skip {o : ROper} {os : List ROper} {fr st} {Q : Post} (hw : wanted fr o.guard = false) : DL E (o :: os) fr st Q ↔ DL E os (putD fr o.dst undef) st Q := by
  unfold DL
  simp only [runOps, hw]
  exact Iff.rfl
theorem runOps_step {c : CallF} {o : ROper} {os : List ROper} {fr : Fr} {st : St} (hw : wanted fr o.guard = true) (hop : isCall o.op = false) :
    runOps c (o :: os) fr st = match step o.op (ev fr) st with
        | some (.val v, st') => runOps c os (putD fr o.dst v) st'
        | some (.pan v, st') => some (.pan v, fr, st')
        | none => none := by
  simp only [runOps, hw, if_true]
  cases ho : o.op <;> first | rfl | (rw [ho] at hop; cases hop)
theorem DL_step {o : ROper} {os : List ROper} {fr st} {Q : Post} (hw : wanted fr o.guard = true) (hop : isCall o.op = false) : DL E (o :: os) fr st Q ↔ stepW o.op (ev fr) st (stepK E o.dst os fr Q) := by
  unfold DL stepW
  simp only [runOps_step hw hop]
  constructor
  · rintro ⟨n, e, fr', st', h, hq⟩
    split at h
    · rename_i v st1 hs; exact ⟨_, _, hs, n, _, _, _, h, hq⟩
    · rename_i v st1 hs
      simp only [Option.some.injEq, Prod.mk.injEq] at h; obtain ⟨rfl, rfl, rfl⟩ := h
      exact ⟨_, _, hs, hq⟩
    · cases h
  · rintro ⟨r, st1, hs, hq⟩
    rw [hs]
    cases r with
    | val v => obtain ⟨n, e, fr', st', h, hq⟩ := hq; exact ⟨n, e, fr', st', h, hq⟩
    | pan v => exact ⟨0, _, _, _, rfl, hq⟩
theorem DL_call {dst : Option Nat} {g : Option (Nat × Bool)} {anc : Nat} {f : Operand} {args : List Operand} {os : List ROper} {fr st} {Q : Post} (hw : wanted fr g = true) :
    DL E (⟨dst, g, .call f args, anc⟩ :: os) fr st Q ↔ ∃ h vs, target (ev fr f) (args.map (ev fr)) = some (h, vs) ∧ DC E h vs { st with fl := st.h.length } (callK E dst os fr st Q) := by
  unfold DL
  simp only [runOps, hw, if_true, doCall]
  constructor
  · rintro ⟨n, e, fr', st', h, hq⟩
    split at h
    · rename_i v st1 hs
      split at hs
      · rename_i g vs ht
        exact ⟨g, vs, ht, _, _, ⟨n, hs⟩, n, _, _, _, h, hq⟩
      · cases hs
    · rename_i v st1 hs
      split at hs
      · rename_i g vs ht
        simp only [Option.some.injEq, Prod.mk.injEq] at h; obtain ⟨rfl, rfl, rfl⟩ := h
        exact ⟨g, vs, ht, _, _, ⟨n, hs⟩, hq⟩
      · cases hs
    · cases h
  · rintro ⟨g, vs, ht, o, st1, ⟨n, hs⟩, hq⟩
    rw [ht]
    cases o with
    | ret v =>
      obtain ⟨m, e, fr', st', h, hq⟩ := hq
      refine ⟨max n m, e, fr', st', ?_, hq⟩
      simp only [call_mono (Nat.le_max_left n m) hs]
      exact runOps_mono (fun f a st x hx => call_mono (Nat.le_max_right n m) hx) _ _ _ _ h
    | pan v => refine ⟨n, _, _, _, ?_, hq⟩; simp only [hs]
theorem DL_step' {dst : Option Nat} {anc : Nat} {op : ROp} {os : List ROper} {fr st} {Q : Post} (hop : isCall op = false) : DL E (⟨dst, none, op, anc⟩ :: os) fr st Q ↔ stepW op (ev fr) st (stepK E dst os fr Q) := DL_step rfl hop
theorem DL_call' {dst : Option Nat} {anc : Nat} {f : Operand} {args : List Operand} {os : List ROper} {fr st} {Q : Post} :
    DL E (⟨dst, none, .call f args, anc⟩ :: os) fr st Q ↔ ∃ h vs, target (ev fr f) (args.map (ev fr)) = some (h, vs) ∧ DC E h vs { st with fl := st.h.length } (callK E dst os fr st Q) := DL_call rfl
/-- Whether a guard's cell lets through. -/
def isW : Value → Bool → Bool
  | .bool b, w => b == w
  | _, _ => false
@[simp] theorem isW_bool {b w : Bool} : isW (.bool b) w = (b == w) := rfl
@[simp] theorem isW_undef {w : Bool} : isW undef w = false := rfl
theorem wanted_isW (fr : Fr) (s : Nat) (w : Bool) : wanted fr (some (s, w)) = isW (get fr s) w := by
  simp only [wanted]; cases get fr s <;> rfl
theorem DL_guard {dst : Option Nat} {s : Nat} {want : Bool} {anc : Nat} {op : ROp} {os : List ROper} {fr st} {Q : Post} :
    DL E (⟨dst, some (s, want), op, anc⟩ :: os) fr st Q ↔ (isW (get fr s) want = true → DL E (⟨dst, none, op, anc⟩ :: os) fr st Q) ∧ (isW (get fr s) want = false → DL E os (putD fr dst undef) st Q) := by
  rw [← wanted_isW]
  cases h : wanted fr (some (s, want)) with
  | true =>
    have : DL E (⟨dst, some (s, want), op, anc⟩ :: os) fr st Q ↔ DL E (⟨dst, none, op, anc⟩ :: os) fr st Q := by
      unfold DL
      simp only [runOps, h, if_true]
      exact Iff.rfl
    simp [this]
  | false => rw [DL_skip (by exact h)]; simp

theorem DC_fn {f : FuncId} {body : R} {res : List RRes} {args st} {Q : Out → St → Prop} (hF : E.F f = some ⟨body, res⟩) (hS : E.S f = none) : DC E f args st Q ↔ DW E body args st (endK res st Q) := by
  have hc : ∀ n, call E n f args st = callOf E.F (exec E n) f args st := fun n => by simp only [call, callSig, hS]
  constructor
  · rintro ⟨o, st', ⟨n, h⟩, hq⟩
    rw [hc] at h
    simp only [callOf, hF] at h
    split at h
    · rename_i fr1 st1 h1
      simp only [Option.map_eq_some_iff] at h
      obtain ⟨v, hv, hb⟩ := h
      exact ⟨n, _, _, _, h1, v, hv, by rw [hb]; exact hq⟩
    · rename_i fr1 st1 h1
      simp only [Option.map_eq_some_iff] at h
      obtain ⟨v, hv, hb⟩ := h
      exact ⟨n, _, _, _, h1, v, hv, by rw [hb]; exact hq⟩
    · rename_i v fr1 st1 h1
      simp only [Option.some.injEq] at h
      exact ⟨n, _, _, _, h1, by simp only [endK, h]; exact hq⟩
    · cases h
  · rintro ⟨n, e, fr', st', h, hq⟩
    cases e with
    | normal =>
      obtain ⟨v, hv, hq⟩ := hq
      exact ⟨_, _, ⟨n, by rw [hc]; simp only [callOf, hF, h, hv, Option.map_some]⟩, hq⟩
    | ret =>
      obtain ⟨v, hv, hq⟩ := hq
      exact ⟨_, _, ⟨n, by rw [hc]; simp only [callOf, hF, h, hv, Option.map_some]⟩, hq⟩
    | pan v => exact ⟨_, _, ⟨n, by rw [hc]; simp only [callOf, hF, h]⟩, hq⟩
    | exit i => exact hq.elim

/-! ### Regions that draw their order -/
@[simp] theorem DD_nil {i : Nat} {acc : List (Nat × FP)} {fr st} {Q : Post} : DD E i acc [] fr st Q ↔ Q .normal fr st := by
  constructor
  · rintro ⟨n, e, fr', st', h, hq⟩
    simp only [runOpsD, Option.some.injEq, Prod.mk.injEq] at h; obtain ⟨rfl, rfl, rfl⟩ := h; exact hq
  · intro h; exact ⟨0, _, _, _, rfl, h⟩
def stepKD (E : Env) (i : Nat) (acc : List (Nat × FP)) (o : ROper) (os : List ROper) (fr : Fr) (st : St) (Q : Post) : Res → St → Prop
  | .val v, st' => clashes acc o.anc { fpOf o.op (ev fr) st with al := st'.h.length != st.h.length } = false ∧ DD E (i + 1) ((i, { fpOf o.op (ev fr) st with al := st'.h.length != st.h.length }) :: acc) os (putD fr o.dst v) st' Q
  | .pan _, _ => False
@[simp] theorem stepKD_val {i : Nat} {acc : List (Nat × FP)} {dst : Option Nat} {g : Option (Nat × Bool)} {op : ROp} {anc : Nat} {os : List ROper} {fr : Fr} {st st' : St} {Q : Post} {v} :
    stepKD E i acc ⟨dst, g, op, anc⟩ os fr st Q (.val v) st' ↔ clashes acc anc { fpOf op (ev fr) st with al := st'.h.length != st.h.length } = false ∧ DD E (i + 1) ((i, { fpOf op (ev fr) st with al := st'.h.length != st.h.length }) :: acc) os (putD fr dst v) st' Q := Iff.rfl
theorem DD_step' {i : Nat} {acc : List (Nat × FP)} {dst : Option Nat} {anc : Nat} {op : ROp} {os : List ROper} {fr st} {Q : Post} (hop : isCall op = false) :
    DD E i acc (⟨dst, none, op, anc⟩ :: os) fr st Q ↔ stepW op (ev fr) st (stepKD E i acc ⟨dst, none, op, anc⟩ os fr st Q) := by
  have hd : ∀ c : CallF, opD c op (ev fr) st = match step op (ev fr) st with
    | some (.val v, st') => some (v, st', { fpOf op (ev fr) st with al := st'.h.length != st.h.length })
    | _ => none := by intro c; cases op <;> first | rfl | simp [isCall] at hop
  unfold DD stepW
  simp only [runOpsD, wanted, if_true, hd]
  constructor
  · rintro ⟨n, e, fr', st', h, hq⟩
    split at h
    · rename_i v st1 fp hs
      split at hs
      · rename_i v' st1' hs'
        simp only [Option.some.injEq, Prod.mk.injEq] at hs
        obtain ⟨rfl, rfl, rfl⟩ := hs
        split at h
        · cases h
        · rename_i hcl
          exact ⟨_, _, hs', by simpa using hcl, n, _, _, _, h, hq⟩
      · cases hs
    · cases h
  · rintro ⟨r, st1, hs, hq⟩
    rw [hs]
    cases r with
    | val v =>
      obtain ⟨hcl, n, e, fr', st', h, hq⟩ := hq
      exact ⟨n, e, fr', st', by simp only at hcl ⊢; rw [if_neg (by simpa using hcl)]; exact h, hq⟩
    | pan v => exact hq.elim
def callKD (E : Env) (i : Nat) (acc : List (Nat × FP)) (dst : Option Nat) (anc : Nat) (os : List ROper) (fr : Fr) (st : St) (Q : Post) : Out → St → Prop
  | .ret v, st' => clashes acc anc { all := true, bad := decide (st'.fl < st.h.length), al := st'.h.length != st.h.length } = false ∧ DD E (i + 1) ((i, { all := true, bad := decide (st'.fl < st.h.length), al := st'.h.length != st.h.length }) :: acc) os (putD fr dst v) (joined st st') Q
  | .pan _, _ => False
@[simp] theorem callKD_ret {i : Nat} {acc : List (Nat × FP)} {dst : Option Nat} {anc : Nat} {os : List ROper} {fr : Fr} {st st' : St} {Q : Post} {v} :
    callKD E i acc dst anc os fr st Q (.ret v) st' ↔ clashes acc anc { all := true, bad := decide (st'.fl < st.h.length), al := st'.h.length != st.h.length } = false ∧ DD E (i + 1) ((i, { all := true, bad := decide (st'.fl < st.h.length), al := st'.h.length != st.h.length }) :: acc) os (putD fr dst v) (joined st st') Q := Iff.rfl
theorem DD_call' {i : Nat} {acc : List (Nat × FP)} {dst : Option Nat} {anc : Nat} {f : Operand} {args : List Operand} {os : List ROper} {fr st} {Q : Post} :
    DD E i acc (⟨dst, none, .call f args, anc⟩ :: os) fr st Q ↔ ∃ h vs, target (ev fr f) (args.map (ev fr)) = some (h, vs) ∧ DC E h vs { st with fl := st.h.length } (callKD E i acc dst anc os fr st Q) := by
  unfold DD
  simp only [runOpsD, wanted, if_true, opD, doCall]
  constructor
  · rintro ⟨n, e, fr', st', h, hq⟩
    split at h
    · rename_i v st1 fp hs
      split at hs
      · rename_i v' st1' hs'
        simp only [Option.some.injEq, Prod.mk.injEq] at hs
        obtain ⟨rfl, rfl, rfl⟩ := hs
        split at hs'
        · rename_i g vs ht
          split at h
          · cases h
          · rename_i hcl
            refine ⟨g, vs, ht, _, _, ⟨n, hs'⟩, ?_, n, _, _, _, h, hq⟩
            simpa [joined] using hcl
        · cases hs'
      · cases hs
    · cases h
  · rintro ⟨g, vs, ht, o, st1, ⟨n, hs⟩, hq⟩
    rw [ht]
    cases o with
    | ret v =>
      obtain ⟨hcl, m, e, fr', st', h, hq⟩ := hq
      refine ⟨max n m, e, fr', st', ?_, hq⟩
      simp only [call_mono (Nat.le_max_left n m) hs]
      rw [if_neg (by simpa [joined] using hcl)]
      exact runOpsD_mono (fun f a st x hx => call_mono (Nat.le_max_right n m) hx) _ _ _ _ _ _ h
    | pan v => exact hq.elim
theorem DD_guard {i : Nat} {acc : List (Nat × FP)} {dst : Option Nat} {s : Nat} {want : Bool} {anc : Nat} {op : ROp} {os : List ROper} {fr st} {Q : Post} :
    DD E i acc (⟨dst, some (s, want), op, anc⟩ :: os) fr st Q ↔ (isW (get fr s) want = true → DD E i acc (⟨dst, none, op, anc⟩ :: os) fr st Q) ∧ (isW (get fr s) want = false → DD E (i + 1) acc os (putD fr dst undef) st Q) := by
  rw [← wanted_isW]
  cases h : wanted fr (some (s, want)) with
  | true =>
    have : DD E i acc (⟨dst, some (s, want), op, anc⟩ :: os) fr st Q ↔ DD E i acc (⟨dst, none, op, anc⟩ :: os) fr st Q := by
      unfold DD
      simp only [runOpsD, h, if_true]
      exact Iff.rfl
    simp [this]
  | false =>
    have : DD E i acc (⟨dst, some (s, want), op, anc⟩ :: os) fr st Q ↔ DD E (i + 1) acc os (putD fr dst undef) st Q := by
      unfold DD
      simp only [runOpsD, h]
      exact Iff.rfl
    simp [this]

end Go.Ai
