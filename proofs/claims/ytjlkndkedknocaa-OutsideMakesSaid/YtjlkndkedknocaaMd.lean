/- Texts that were built one by one: AiW, AiX, AiY. -/
import Derived.Test.YtjlkndkedknocaaMb
namespace Go.Ai
set_option linter.unusedSimpArgs false
set_option linter.unusedVariables false
variable {E : Env}

/-! ### More fuel does no harm -/
theorem doCall_mono {c c' : CallF} (h : ∀ f a st x, c f a st = some x → c' f a st = some x) {f : Operand} {args : List Operand} {e : Operand → Value} {st : St} {x : Out × St} (hx : doCall c f args e st = some x) : doCall c' f args e st = some x := by
  unfold doCall at hx ⊢
  split at hx
  · rename_i g vs ht; exact h _ _ _ _ hx
  · cases hx

theorem runOps_mono {c c' : CallF} (h : ∀ f a st x, c f a st = some x → c' f a st = some x) : ∀ (l : List ROper) (fr : Fr) (st : St) x, runOps c l fr st = some x → runOps c' l fr st = some x := by
  intro l
  induction l with
  | nil => intro fr st x hx; exact hx
  | cons o os ih =>
    intro fr st x hx
    simp only [runOps] at hx ⊢
    split at hx
    · rename_i hw
      rw [if_pos hw]
      cases hop : o.op <;> simp only [hop] at hx ⊢
      case call f args =>
        split at hx
        · rename_i v st1 hc; rw [doCall_mono h hc]; exact ih _ _ _ hx
        · rename_i v st1 hc; rw [doCall_mono h hc]; exact hx
        · cases hx
      all_goals
        split at hx
        · rename_i v st1 hs; first | exact ih _ _ _ hx | (rw [hs]; exact ih _ _ _ hx)
        · rename_i v st1 hs; first | exact hx | (rw [hs]; exact hx)
        · cases hx
    · rename_i hw
      rw [if_neg hw]
      exact ih _ _ _ hx

theorem opD_mono {c c' : CallF} (h : ∀ f a st x, c f a st = some x → c' f a st = some x) {o : ROp} {e : Operand → Value} {st : St} {x : Value × St × FP} (hx : opD c o e st = some x) : opD c' o e st = some x := by
  cases o <;> simp only [opD] at hx ⊢
  case call f args =>
    split at hx
    · cases hx
    · rename_i hy
      rw [if_neg hy]
      split at hx
      · rename_i v st1 hc; rw [doCall_mono h hc]; exact hx
      · cases hx
  all_goals exact hx

theorem runOpsD_mono {c c' : CallF} (h : ∀ f a st x, c f a st = some x → c' f a st = some x) : ∀ (l : List ROper) (i : Nat) (acc : List (Nat × FP)) (fr : Fr) (st : St) x, runOpsD c i acc l fr st = some x → runOpsD c' i acc l fr st = some x := by
  intro l
  induction l with
  | nil => intro i acc fr st x hx; exact hx
  | cons o os ih =>
    intro i acc fr st x hx
    simp only [runOpsD] at hx ⊢
    split at hx
    · rename_i hw
      rw [if_pos hw]
      split at hx
      · rename_i v st1 fp hs
        rw [opD_mono h hs]
        simp only
        split at hx
        · cases hx
        · rename_i hcl
          rw [if_neg hcl]
          exact ih _ _ _ _ _ hx
      · cases hx
    · rename_i hw
      rw [if_neg hw]
      exact ih _ _ _ _ _ hx

theorem sig_mono {X X' : R → Fr → St → Option (Ex × Fr × St)} (ih : ∀ r fr st x, X r fr st = some x → X' r fr st = some x) : ∀ f a st x, callSig E.S (callOf E X) f a st = some x → callSig E.S (callOf E X') f a st = some x := by
  intro f a st x hx
  unfold callSig at hx ⊢
  split at hx
  · exact hx
  · unfold callOf at hx ⊢
    split at hx
    · rename_i hy
      rw [if_pos hy]
      unfold callY at hx ⊢
      split at hx
      · split at hx
        · rename_i hl
          rw [if_pos hl]
          split at hx
          · split at hx
            · rename_i fr1 st1 h1
              rw [ih _ _ _ _ h1]
              split at hx
              · rename_i st2 h2
                simp only [h2]
                split at hx
                · rename_i fr3 st3 h3
                  rw [ih _ _ _ _ h3]
                  exact hx
                · cases hx
              · cases hx
            · cases hx
          · cases hx
        · cases hx
      · cases hx
    · rename_i hy
      rw [if_neg hy]
      split at hx
      · cases hx
      · rename_i rf hrf
        try simp only
        split at hx
        · rename_i fr1 st1 h1; rw [ih _ _ _ _ h1]; exact hx
        · rename_i fr1 st1 h1; rw [ih _ _ _ _ h1]; exact hx
        · rename_i v fr1 st1 h1; rw [ih _ _ _ _ h1]; exact hx
        · cases hx

theorem exec_succ : ∀ (n : Nat) (r : R) (fr : Fr) (st : St) x, exec E n r fr st = some x → exec E (n + 1) r fr st = some x := by
  intro n
  induction n with
  | zero => intro r fr st x h; simp [exec] at h
  | succ n ih =>
    have hcall := sig_mono (E := E) (X := exec E n) (X' := exec E (n + 1)) ih
    intro r fr st x h
    cases r with
    | skip => exact h
    | exit id => exact h
    | ret => exact h
    | seq a b =>
      rw [exec] at h ⊢
      split at h
      · rename_i fr1 st1 h1
        rw [ih _ _ _ _ h1]
        exact ih _ _ _ _ h
      · rename_i r' hne
        rw [ih _ _ _ _ h]
        obtain ⟨e, fr', st'⟩ := x
        cases e with
        | normal => exact absurd h (hne fr' st')
        | _ => rfl
    | cond c t el =>
      rw [exec] at h ⊢
      split at h
      · rename_i b hb
        try simp only
        split at h
        · rename_i hbt; rw [if_pos hbt]; exact ih _ _ _ _ h
        · rename_i hbt; rw [if_neg hbt]; exact ih _ _ _ _ h
      · cases h
    | block id b =>
      rw [exec] at h ⊢
      split at h
      · rename_i id' fr1 st1 h1
        rw [ih _ _ _ _ h1]
        exact h
      · rename_i r' hne
        rw [ih _ _ _ _ h]
        obtain ⟨e, fr', st'⟩ := x
        cases e with
        | exit id' => exact absurd h (hne id' fr' st')
        | _ => rfl
    | loop b =>
      rw [exec] at h ⊢
      split at h
      · rename_i fr1 st1 h1
        rw [ih _ _ _ _ h1]
        exact ih _ _ _ _ h
      · rename_i r' hne
        rw [ih _ _ _ _ h]
        obtain ⟨e, fr', st'⟩ := x
        cases e with
        | normal => exact absurd h (hne fr' st')
        | _ => rfl
    | ops d l =>
      cases d with
      | false => rw [exec] at h ⊢; exact runOps_mono hcall _ _ _ _ h
      | true => rw [exec] at h ⊢; exact runOpsD_mono hcall _ _ _ _ _ _ h
    | rangeF g ps nt as bd =>
      rw [exec] at h ⊢
      split at h
      · rename_i f vs ht
        try simp only
        split at h
        · rename_i hf
          rw [if_pos hf]
          split at h
          · rename_i v st2 h1
            rw [hcall _ _ _ _ h1]
            exact h
          · cases h
        · cases h
      · cases h

theorem exec_mono {n m : Nat} (hnm : n ≤ m) {r : R} {fr : Fr} {st : St} {x} (h : exec E n r fr st = some x) : exec E m r fr st = some x := by
  induction hnm with
  | refl => exact h
  | step _ ih => exact exec_succ _ _ _ _ _ ih

theorem call_mono {n m : Nat} (hnm : n ≤ m) {f : FuncId} {args : List Value} {st : St} {x} (h : call E n f args st = some x) : call E m f args st = some x :=
  sig_mono (fun _ _ _ _ => exec_mono hnm) _ _ _ _ h

/-! ### What a run comes to -/
abbrev Post := Ex → Fr → St → Prop
/-- The run of a piece of code ends, and what it comes to is such. -/
def DW (E : Env) (r : R) (fr : Fr) (st : St) (Q : Post) : Prop := ∃ n e fr' st', exec E n r fr st = some (e, fr', st') ∧ Q e fr' st'
def DL (E : Env) (l : List ROper) (fr : Fr) (st : St) (Q : Post) : Prop := ∃ n e fr' st', runOps (call E n) l fr st = some (e, fr', st') ∧ Q e fr' st'
def DD (E : Env) (i : Nat) (acc : List (Nat × FP)) (l : List ROper) (fr : Fr) (st : St) (Q : Post) : Prop := ∃ n e fr' st', runOpsD (call E n) i acc l fr st = some (e, fr', st') ∧ Q e fr' st'
/-- A call returns this, and leaves that memory. -/
def DR (E : Env) (f : FuncId) (args : List Value) (st : St) (o : Out) (st' : St) : Prop := ∃ n, call E n f args st = some (o, st')
def DC (E : Env) (f : FuncId) (args : List Value) (st : St) (Q : Out → St → Prop) : Prop := ∃ o st', DR E f args st o st' ∧ Q o st'

def seqK (E : Env) (b : R) (Q : Post) : Post
  | .normal, fr, st => DW E b fr st Q
  | .exit i, fr, st => Q (.exit i) fr st
  | .ret, fr, st => Q .ret fr st
  | .pan v, fr, st => Q (.pan v) fr st
def blockK (id : Nat) (Q : Post) : Post
  | .normal, fr, st => Q .normal fr st
  | .exit i, fr, st => if i = id then Q .normal fr st else Q (.exit i) fr st
  | .ret, fr, st => Q .ret fr st
  | .pan v, fr, st => Q (.pan v) fr st
def endK (res : List RRes) (st : St) (Q : Out → St → Prop) : Post
  | .normal, fr, st' => ∃ v, resV fr st'.h res = some v ∧ Q (back st (.ret v) st').1 (back st (.ret v) st').2
  | .ret, fr, st' => ∃ v, resV fr st'.h res = some v ∧ Q (back st (.ret v) st').1 (back st (.ret v) st').2
  | .pan v, _, st' => Q (back st (.pan v) st').1 (back st (.pan v) st').2
  | .exit _, _, _ => False
def callK (E : Env) (dst : Option Nat) (os : List ROper) (fr : Fr) (st : St) (Q : Post) : Out → St → Prop
  | .ret v, st' => DL E os (putD fr dst v) (joined st st') Q
  | .pan v, st' => Q (.pan v) fr (joined st st')

@[simp] theorem seqK_normal {b : R} {Q : Post} {fr st} : seqK E b Q .normal fr st ↔ DW E b fr st Q := Iff.rfl
@[simp] theorem seqK_exit {b : R} {Q : Post} {fr st i} : seqK E b Q (.exit i) fr st ↔ Q (.exit i) fr st := Iff.rfl
@[simp] theorem seqK_ret {b : R} {Q : Post} {fr st} : seqK E b Q .ret fr st ↔ Q .ret fr st := Iff.rfl
@[simp] theorem seqK_pan {b : R} {Q : Post} {fr st v} : seqK E b Q (.pan v) fr st ↔ Q (.pan v) fr st := Iff.rfl
@[simp] theorem blockK_normal {id : Nat} {Q : Post} {fr st} : blockK id Q .normal fr st ↔ Q .normal fr st := Iff.rfl
@[simp] theorem blockK_exit {id : Nat} {Q : Post} {fr st i} : blockK id Q (.exit i) fr st ↔ if i = id then Q .normal fr st else Q (.exit i) fr st := Iff.rfl
@[simp] theorem blockK_ret {id : Nat} {Q : Post} {fr st} : blockK id Q .ret fr st ↔ Q .ret fr st := Iff.rfl
@[simp] theorem blockK_pan {id : Nat} {Q : Post} {fr st v} : blockK id Q (.pan v) fr st ↔ Q (.pan v) fr st := Iff.rfl
theorem endK_normal {res : List RRes} {st st' : St} {Q : Out → St → Prop} {fr} : endK res st Q .normal fr st' ↔ ∃ v, resV fr st'.h res = some v ∧ Q (back st (.ret v) st').1 (back st (.ret v) st').2 := Iff.rfl
theorem endK_ret {res : List RRes} {st st' : St} {Q : Out → St → Prop} {fr} : endK res st Q .ret fr st' ↔ ∃ v, resV fr st'.h res = some v ∧ Q (back st (.ret v) st').1 (back st (.ret v) st').2 := Iff.rfl
theorem endK_pan {res : List RRes} {st st' : St} {Q : Out → St → Prop} {fr v} : endK res st Q (.pan v) fr st' ↔ Q (back st (.pan v) st').1 (back st (.pan v) st').2 := Iff.rfl
@[simp] theorem callK_ret {dst : Option Nat} {os : List ROper} {fr : Fr} {st st' : St} {Q : Post} {v} : callK E dst os fr st Q (.ret v) st' ↔ DL E os (putD fr dst v) (joined st st') Q := Iff.rfl
@[simp] theorem callK_pan {dst : Option Nat} {os : List ROper} {fr : Fr} {st st' : St} {Q : Post} {v} : callK E dst os fr st Q (.pan v) st' ↔ Q (.pan v) fr (joined st st') := Iff.rfl

theorem DW.imp {r : R} {fr st} {Q Q' : Post} (h : DW E r fr st Q) (k : ∀ e fr st, Q e fr st → Q' e fr st) : DW E r fr st Q' := by
  obtain ⟨n, e, fr', st', h1, h2⟩ := h; exact ⟨n, e, fr', st', h1, k _ _ _ h2⟩
theorem DC.imp {f : FuncId} {args st} {Q Q' : Out → St → Prop} (h : DC E f args st Q) (k : ∀ o st, Q o st → Q' o st) : DC E f args st Q' := by
  obtain ⟨o, st', h1, h2⟩ := h; exact ⟨o, st', h1, k _ _ h2⟩
theorem DR.unique {f : FuncId} {args st o st' o2 st2} (h : DR E f args st o st') (k : DR E f args st o2 st2) : o = o2 ∧ st' = st2 := by
  obtain ⟨n, h⟩ := h; obtain ⟨m, k⟩ := k
  have h1 := call_mono (Nat.le_max_left n m) h
  have k1 := call_mono (Nat.le_max_right n m) k
  rw [h1] at k1
  simpa using k1
theorem DC_of {f : FuncId} {args st o st'} (h : DR E f args st o st') {Q : Out → St → Prop} : DC E f args st Q ↔ Q o st' :=
  ⟨fun ⟨o2, st2, h1, h2⟩ => by obtain ⟨rfl, rfl⟩ := h.unique h1; exact h2, fun hq => ⟨o, st', h, hq⟩⟩
theorem DR_of {f : FuncId} {args st o st'} (h : DC E f args st fun o2 st2 => o2 = o ∧ st2 = st') : DR E f args st o st' := by
  obtain ⟨o2, st2, h1, rfl, rfl⟩ := h; exact h1

@[simp] theorem DW_skip {fr st} {Q : Post} : DW E .skip fr st Q ↔ Q .normal fr st := by
  constructor
  · rintro ⟨n, e, fr', st', h, hq⟩
    cases n with
    | zero => simp [exec] at h
    | succ n => simp only [exec, Option.some.injEq, Prod.mk.injEq] at h; obtain ⟨rfl, rfl, rfl⟩ := h; exact hq
  · intro h; exact ⟨1, _, _, _, rfl, h⟩
@[simp] theorem DW_exit {id fr st} {Q : Post} : DW E (.exit id) fr st Q ↔ Q (.exit id) fr st := by
  constructor
  · rintro ⟨n, e, fr', st', h, hq⟩
    cases n with
    | zero => simp [exec] at h
    | succ n => simp only [exec, Option.some.injEq, Prod.mk.injEq] at h; obtain ⟨rfl, rfl, rfl⟩ := h; exact hq
  · intro h; exact ⟨1, _, _, _, rfl, h⟩
@[simp] theorem DW_ret {fr st} {Q : Post} : DW E .ret fr st Q ↔ Q .ret fr st := by
  constructor
  · rintro ⟨n, e, fr', st', h, hq⟩
    cases n with
    | zero => simp [exec] at h
    | succ n => simp only [exec, Option.some.injEq, Prod.mk.injEq] at h; obtain ⟨rfl, rfl, rfl⟩ := h; exact hq
  · intro h; exact ⟨1, _, _, _, rfl, h⟩
@[simp] theorem DW_seq {a b : R} {fr st} {Q : Post} : DW E (.seq a b) fr st Q ↔ DW E a fr st (seqK E b Q) := by
  constructor
  · rintro ⟨n, e, fr', st', h, hq⟩
    cases n with
    | zero => simp [exec] at h
    | succ n =>
      rw [exec] at h
      split at h
      · rename_i fr1 st1 h1
        exact ⟨n, _, _, _, h1, n, _, _, _, h, hq⟩
      · rename_i r' hne
        refine ⟨n, _, _, _, h, ?_⟩
        cases e with
        | normal => exact absurd h (hne fr' st')
        | _ => exact hq
  · rintro ⟨n, e, fr', st', h, hq⟩
    cases e with
    | normal =>
      obtain ⟨m, e2, fr2, st2, h2, hq2⟩ := hq
      refine ⟨max n m + 1, e2, fr2, st2, ?_, hq2⟩
      rw [exec, exec_mono (Nat.le_max_left n m) h]
      exact exec_mono (Nat.le_max_right n m) h2
    | _ =>
      refine ⟨n + 1, _, fr', st', ?_, hq⟩
      rw [exec, h]
theorem DW_cond {c : Operand} {t el : R} {fr st} {Q : Post} : DW E (.cond c t el) fr st Q ↔ ∃ b, ev fr c = .bool b ∧ (b = true → DW E t fr st Q) ∧ (b = false → DW E el fr st Q) := by
  constructor
  · rintro ⟨n, e, fr', st', h, hq⟩
    cases n with
    | zero => simp [exec] at h
    | succ n =>
      rw [exec] at h
      split at h
      · rename_i b hb
        refine ⟨b, hb, fun h1 => ?_, fun h1 => ?_⟩
        · subst h1; exact ⟨n, _, _, _, by simpa using h, hq⟩
        · subst h1; exact ⟨n, _, _, _, by simpa using h, hq⟩
      · cases h
  · rintro ⟨b, hb, h1, h2⟩
    cases b with
    | true =>
      obtain ⟨n, e, fr', st', h, hq⟩ := h1 rfl
      exact ⟨n + 1, e, fr', st', by rw [exec, hb]; simpa using h, hq⟩
    | false =>
      obtain ⟨n, e, fr', st', h, hq⟩ := h2 rfl
      exact ⟨n + 1, e, fr', st', by rw [exec, hb]; simpa using h, hq⟩
@[simp] theorem DW_block {id : Nat} {b : R} {fr st} {Q : Post} : DW E (.block id b) fr st Q ↔ DW E b fr st (blockK id Q) := by
  constructor
  · rintro ⟨n, e, fr', st', h, hq⟩
    cases n with
    | zero => simp [exec] at h
    | succ n =>
      rw [exec] at h
      split at h
      · rename_i id' fr1 st1 h1
        refine ⟨n, _, _, _, h1, ?_⟩
        split at h
        · rename_i hid
          simp only [Option.some.injEq, Prod.mk.injEq] at h
          obtain ⟨rfl, rfl, rfl⟩ := h
          simp [hid]; exact hq
        · rename_i hid
          simp only [Option.some.injEq, Prod.mk.injEq] at h
          obtain ⟨rfl, rfl, rfl⟩ := h
          simp [hid]; exact hq
      · rename_i r' hne
        refine ⟨n, _, _, _, h, ?_⟩
        cases e with
        | exit id' => exact absurd h (hne id' fr' st')
        | _ => exact hq
  · rintro ⟨n, e, fr', st', h, hq⟩
    cases e with
    | exit id' =>
      simp only [blockK_exit] at hq
      by_cases hid : id' = id
      · rw [if_pos hid] at hq
        exact ⟨n + 1, _, _, _, by rw [exec, h]; simp [hid], hq⟩
      · rw [if_neg hid] at hq
        exact ⟨n + 1, _, _, _, by rw [exec, h]; simp [hid], hq⟩
    | _ => exact ⟨n + 1, _, _, _, by rw [exec, h], hq⟩
theorem DW_loop_unfold {b : R} {fr st} {Q : Post} : DW E (.loop b) fr st Q ↔ DW E b fr st (seqK E (.loop b) Q) := by
  constructor
  · rintro ⟨n, e, fr', st', h, hq⟩
    cases n with
    | zero => simp [exec] at h
    | succ n =>
      rw [exec] at h
      split at h
      · rename_i fr1 st1 h1
        exact ⟨n, _, _, _, h1, n, _, _, _, h, hq⟩
      · rename_i r' hne
        refine ⟨n, _, _, _, h, ?_⟩
        cases e with
        | normal => exact absurd h (hne fr' st')
        | _ => exact hq
  · rintro ⟨n, e, fr', st', h, hq⟩
    cases e with
    | normal =>
      obtain ⟨m, e2, fr2, st2, h2, hq2⟩ := hq
      refine ⟨max n m + 1, e2, fr2, st2, ?_, hq2⟩
      rw [exec, exec_mono (Nat.le_max_left n m) h]
      exact exec_mono (Nat.le_max_right n m) h2
    | _ =>
      refine ⟨n + 1, _, fr', st', ?_, hq⟩
      rw [exec, h]
/-- A round's way on. -/
def roundK (I : Nat → Fr → St → Prop) (k : Nat) (Q : Post) : Post
  | .normal, fr, st => ∃ k', k' < k ∧ I k' fr st
  | .exit i, fr, st => Q (.exit i) fr st
  | .ret, fr, st => Q .ret fr st
  | .pan v, fr, st => Q (.pan v) fr st
@[simp] theorem roundK_normal {I : Nat → Fr → St → Prop} {k : Nat} {Q : Post} {fr st} : roundK I k Q .normal fr st ↔ ∃ k', k' < k ∧ I k' fr st := Iff.rfl
@[simp] theorem roundK_exit {I : Nat → Fr → St → Prop} {k : Nat} {Q : Post} {fr st i} : roundK I k Q (.exit i) fr st ↔ Q (.exit i) fr st := Iff.rfl
@[simp] theorem roundK_ret {I : Nat → Fr → St → Prop} {k : Nat} {Q : Post} {fr st} : roundK I k Q .ret fr st ↔ Q .ret fr st := Iff.rfl
@[simp] theorem roundK_pan {I : Nat → Fr → St → Prop} {k : Nat} {Q : Post} {fr st v} : roundK I k Q (.pan v) fr st ↔ Q (.pan v) fr st := Iff.rfl
theorem DW_loop (I : Nat → Fr → St → Prop) {b : R} {Q : Post} (hI : ∀ k fr st, I k fr st → DW E b fr st (roundK I k Q)) {k : Nat} {fr st} (h : I k fr st) : DW E (.loop b) fr st Q := by
  induction k using Nat.strongRecOn generalizing fr st with
  | ind k ih =>
    rw [DW_loop_unfold]
    refine (hI k fr st h).imp fun e fr' st' hq => ?_
    cases e with
    | normal => obtain ⟨k', hk, hi⟩ := hq; exact ih k' hk hi
    | _ => exact hq

theorem DW_ops {l : List ROper} {fr st} {Q : Post} : DW E (.ops false l) fr st Q ↔ DL E l fr st Q := by
  constructor
  · rintro ⟨n, e, fr', st', h, hq⟩
    cases n with
    | zero => simp [exec] at h
    | succ n => exact ⟨n, _, _, _, h, hq⟩
  · rintro ⟨n, e, fr', st', h, hq⟩; exact ⟨n + 1, _, _, _, h, hq⟩
theorem DW_opsD {l : List ROper} {fr st} {Q : Post} : DW E (.ops true l) fr st Q ↔ DD E 0 [] l fr st Q := by
  constructor
  · rintro ⟨n, e, fr', st', h, hq⟩
    cases n with
    | zero => simp [exec] at h
    | succ n => exact ⟨n, _, _, _, h, hq⟩
  · rintro ⟨n, e, fr', st', h, hq⟩; exact ⟨n + 1, _, _, _, h, hq⟩
attribute [simp] DW_ops

/-- One operation that is no call. -/
def stepW (op : ROp) (e : Operand → Value) (st : St) (Q : Res → St → Prop) : Prop := ∃ r st', step op e st = some (r, st') ∧ Q r st'
def isCall : ROp → Bool
  | .call _ _ => true
  | _ => false
def stepK (E : Env) (dst : Option Nat) (os : List ROper) (fr : Fr) (Q : Post) : Res → St → Prop
  | .val v, st' => DL E os (putD fr dst v) st' Q
  | .pan v, st' => Q (.pan v) fr st'
@[simp] theorem stepK_val {dst : Option Nat} {os : List ROper} {fr : Fr} {st' : St} {Q : Post} {v} : stepK E dst os fr Q (.val v) st' ↔ DL E os (putD fr dst v) st' Q := Iff.rfl
@[simp] theorem stepK_pan {dst : Option Nat} {os : List ROper} {fr : Fr} {st' : St} {Q : Post} {v} : stepK E dst os fr Q (.pan v) st' ↔ Q (.pan v) fr st' := Iff.rfl

@[simp] theorem DL_nil {fr st} {Q : Post} : DL E [] fr st Q ↔ Q .normal fr st := by
  constructor
  · rintro ⟨n, e, fr', st', h, hq⟩
    simp only [runOps, Option.some.injEq, Prod.mk.injEq] at h; obtain ⟨rfl, rfl, rfl⟩ := h; exact hq
  · intro h; exact ⟨0, _, _, _, rfl, h⟩
theorem DL_skip {o : ROper} {os : List ROper} {fr st} {Q : Post} (hw : wanted fr o.guard = false) : DL E (o :: os) fr st Q ↔ DL E os (putD fr o.dst undef) st Q := by
  unfold DL
  simp only [runOps, hw]
  exact Iff.rfl
theorem runOps_step {c : CallF} {o : ROper} {os : List ROper} {fr : Fr} {st : St} (hw : wanted fr o.guard = true) (hop : isCall o.op = false) :
    runOps c (o :: os) fr st = match step o.op (ev fr) st with
        | some (.val v, st') => runOps c os (putD fr o.dst v) st'
        | some (.pan v, st') => some (.pan v, fr, st')
        | none => none := by
  simp only [runOps, hw, if_true]
  cases ho : o.op <;> first | rfl | (rw [ho] at hop; cases hop)
theorem DL_step {o : ROper} {os : List ROper} {fr st} {Q : Post} (hw : wanted fr o.guard = true) (hop : isCall o.op = false) : DL E (o :: os) fr st Q ↔ stepW o.op (ev fr) st (stepK E o.dst os fr Q) := by
  unfold DL stepW
  simp only [runOps_step hw hop]
  constructor
  · rintro ⟨n, e, fr', st', h, hq⟩
    split at h
    · rename_i v st1 hs; exact ⟨_, _, hs, n, _, _, _, h, hq⟩
    · rename_i v st1 hs
      simp only [Option.some.injEq, Prod.mk.injEq] at h; obtain ⟨rfl, rfl, rfl⟩ := h
      exact ⟨_, _, hs, hq⟩
    · cases h
  · rintro ⟨r, st1, hs, hq⟩
    rw [hs]
    cases r with
    | val v => obtain ⟨n, e, fr', st', h, hq⟩ := hq; exact ⟨n, e, fr', st', h, hq⟩
    | pan v => exact ⟨0, _, _, _, rfl, hq⟩
theorem DL_call {dst : Option Nat} {g : Option (Nat × Bool)} {anc : Nat} {f : Operand} {args : List Operand} {os : List ROper} {fr st} {Q : Post} (hw : wanted fr g = true) :
    DL E (⟨dst, g, .call f args, anc⟩ :: os) fr st Q ↔ ∃ h vs, target (ev fr f) (args.map (ev fr)) = some (h, vs) ∧ DC E h vs { st with fl := st.h.length } (callK E dst os fr st Q) := by
  unfold DL
  simp only [runOps, hw, if_true, doCall]
  constructor
  · rintro ⟨n, e, fr', st', h, hq⟩
    split at h
    · rename_i v st1 hs
      split at hs
      · rename_i g vs ht
        exact ⟨g, vs, ht, _, _, ⟨n, hs⟩, n, _, _, _, h, hq⟩
      · cases hs
    · rename_i v st1 hs
      split at hs
      · rename_i g vs ht
        simp only [Option.some.injEq, Prod.mk.injEq] at h; obtain ⟨rfl, rfl, rfl⟩ := h
        exact ⟨g, vs, ht, _, _, ⟨n, hs⟩, hq⟩
      · cases hs
    · cases h
  · rintro ⟨g, vs, ht, o, st1, ⟨n, hs⟩, hq⟩
    rw [ht]
    cases o with
    | ret v =>
      obtain ⟨m, e, fr', st', h, hq⟩ := hq
      refine ⟨max n m, e, fr', st', ?_, hq⟩
      simp only [call_mono (Nat.le_max_left n m) hs]
      exact runOps_mono (fun f a st x hx => call_mono (Nat.le_max_right n m) hx) _ _ _ _ h
    | pan v => refine ⟨n, _, _, _, ?_, hq⟩; simp only [hs]
theorem DL_step' {dst : Option Nat} {anc : Nat} {op : ROp} {os : List ROper} {fr st} {Q : Post} (hop : isCall op = false) : DL E (⟨dst, none, op, anc⟩ :: os) fr st Q ↔ stepW op (ev fr) st (stepK E dst os fr Q) := DL_step rfl hop
theorem DL_call' {dst : Option Nat} {anc : Nat} {f : Operand} {args : List Operand} {os : List ROper} {fr st} {Q : Post} :
    DL E (⟨dst, none, .call f args, anc⟩ :: os) fr st Q ↔ ∃ h vs, target (ev fr f) (args.map (ev fr)) = some (h, vs) ∧ DC E h vs { st with fl := st.h.length } (callK E dst os fr st Q) := DL_call rfl
/-- Whether a guard's cell lets through. -/
def isW : Value → Bool → Bool
  | .bool b, w => b == w
  | _, _ => false
@[simp] theorem isW_bool {b w : Bool} : isW (.bool b) w = (b == w) := rfl
@[simp] theorem isW_undef {w : Bool} : isW undef w = false := rfl
theorem wanted_isW (fr : Fr) (s : Nat) (w : Bool) : wanted fr (some (s, w)) = isW (get fr s) w := by
  simp only [wanted]; cases get fr s <;> rfl
theorem DL_guard {dst : Option Nat} {s : Nat} {want : Bool} {anc : Nat} {op : ROp} {os : List ROper} {fr st} {Q : Post} :
    DL E (⟨dst, some (s, want), op, anc⟩ :: os) fr st Q ↔ (isW (get fr s) want = true → DL E (⟨dst, none, op, anc⟩ :: os) fr st Q) ∧ (isW (get fr s) want = false → DL E os (putD fr dst undef) st Q) := by
  rw [← wanted_isW]
  cases h : wanted fr (some (s, want)) with
  | true =>
    have : DL E (⟨dst, some (s, want), op, anc⟩ :: os) fr st Q ↔ DL E (⟨dst, none, op, anc⟩ :: os) fr st Q := by
      unfold DL
      simp only [runOps, h, if_true]
      exact Iff.rfl
    simp [this]
  | false => rw [DL_skip (by exact h)]; simp

theorem DC_fn {f : FuncId} {body : R} {res : List RRes} {args st} {Q : Out → St → Prop} (hF : E.F f = some ⟨body, res⟩) (hS : E.S f = none) (hlt : ¬ yB ≤ f := by decide) : DC E f args st Q ↔ DW E body args st (endK res st Q) := by
  have hc : ∀ n, call E n f args st = callOf E (exec E n) f args st := fun n => by simp only [call, callSig, hS]
  constructor
  · rintro ⟨o, st', ⟨n, h⟩, hq⟩
    rw [hc] at h
    simp only [callOf, if_neg hlt, hF] at h
    split at h
    · rename_i fr1 st1 h1
      simp only [Option.map_eq_some_iff] at h
      obtain ⟨v, hv, hb⟩ := h
      exact ⟨n, _, _, _, h1, v, hv, by rw [hb]; exact hq⟩
    · rename_i fr1 st1 h1
      simp only [Option.map_eq_some_iff] at h
      obtain ⟨v, hv, hb⟩ := h
      exact ⟨n, _, _, _, h1, v, hv, by rw [hb]; exact hq⟩
    · rename_i v fr1 st1 h1
      simp only [Option.some.injEq] at h
      exact ⟨n, _, _, _, h1, by simp only [endK, h]; exact hq⟩
    · cases h
  · rintro ⟨n, e, fr', st', h, hq⟩
    cases e with
    | normal =>
      obtain ⟨v, hv, hq⟩ := hq
      exact ⟨_, _, ⟨n, by rw [hc]; simp only [callOf, if_neg hlt, hF, h, hv, Option.map_some]⟩, hq⟩
    | ret =>
      obtain ⟨v, hv, hq⟩ := hq
      exact ⟨_, _, ⟨n, by rw [hc]; simp only [callOf, if_neg hlt, hF, h, hv, Option.map_some]⟩, hq⟩
    | pan v => exact ⟨_, _, ⟨n, by rw [hc]; simp only [callOf, if_neg hlt, hF, h]⟩, hq⟩
    | exit i => exact hq.elim

/-! ### Ranges over functions -/
theorem DW_rangeF {g : Operand} {ps : List Nat} {nt : Nat} {as bd : Code} {fr : Fr} {st : St} {Q : Post} {f : FuncId} {vs : List Value} (ht : target (ev fr g) [tok st.h.length] = some (f, vs)) (hf : f < yB)
    (h : DC E f vs ⟨st.h ++ [.loop false nt fr ps as bd], st.h.length + 1⟩ fun o st2 => (∃ v, o = .ret v) ∧ ∃ st3, over st.h.length (joined ⟨st.h ++ [.loop false nt fr ps as bd], st.fl⟩ st2) = some st3 ∧ Q .normal fr st3) : DW E (.rangeF g ps nt as bd) fr st Q := by
  obtain ⟨o, st2, ⟨n, hc⟩, ⟨v, rfl⟩, st3, h3, hq⟩ := h
  refine ⟨n + 1, .normal, fr, st3, ?_, hq⟩
  rw [exec, ht]
  simp only [hf, if_true]
  have hc' : callSig E.S (callOf E (exec E n)) f vs { looped nt fr ps as bd st with fl := st.h.length + 1 } = some (.ret v, st2) := hc
  rw [hc']
  show (over st.h.length (joined (looped nt fr ps as bd st) st2)).map _ = _
  rw [show over st.h.length (joined (looped nt fr ps as bd st) st2) = some st3 from h3]
  rfl
theorem DC_yield {k : Nat} {args : List Value} {st : St} {Q : Out → St → Prop} {b : Bool} {nt : Nat} {fr : List Value} {ps : List Nat} {as bd : Code} {ra rb : R} (hS : E.S (yB + k) = none)
    (hk : st.h[k]? = some (.loop b nt fr ps as bd)) (hl : args.length = ps.length) (ha : E.cmp nt as = some ra) (hb : E.cmp nt bd = some rb)
    (h : DW E ra (putAll fr ps args) st fun e fr1 st1 => e = .normal ∧ ∃ st2, turn false k st1 = some st2 ∧ DW E rb fr1 st2 fun e' _ st3 => e' = .normal ∧ ∃ st4, turn true k st3 = some st4 ∧ Q (.ret (.bool true)) st4) : DC E (yB + k) args st Q := by
  obtain ⟨n, e, fr1, st1, h1, rfl, st2, h2, m, e', fr3, st3, h3, rfl, st4, h4, hq⟩ := h
  refine ⟨_, st4, ⟨max n m, ?_⟩, hq⟩
  simp only [call, callSig, hS, callOf, if_pos (Nat.le_add_right yB k), Nat.add_sub_cancel_left]
  unfold callY
  simp only [hk, hl, if_true, ha, hb, exec_mono (Nat.le_max_left n m) h1, h2, exec_mono (Nat.le_max_right n m) h3, h4, Option.map_some]

/-! ### Regions that draw their order -/
@[simp] theorem DD_nil {i : Nat} {acc : List (Nat × FP)} {fr st} {Q : Post} : DD E i acc [] fr st Q ↔ Q .normal fr st := by
  constructor
  · rintro ⟨n, e, fr', st', h, hq⟩
    simp only [runOpsD, Option.some.injEq, Prod.mk.injEq] at h; obtain ⟨rfl, rfl, rfl⟩ := h; exact hq
  · intro h; exact ⟨0, _, _, _, rfl, h⟩
def stepKD (E : Env) (i : Nat) (acc : List (Nat × FP)) (o : ROper) (os : List ROper) (fr : Fr) (st : St) (Q : Post) : Res → St → Prop
  | .val v, st' => clashes acc o.anc { fpOf o.op (ev fr) st with al := st'.h.length != st.h.length } = false ∧ DD E (i + 1) ((i, { fpOf o.op (ev fr) st with al := st'.h.length != st.h.length }) :: acc) os (putD fr o.dst v) st' Q
  | .pan _, _ => False
@[simp] theorem stepKD_val {i : Nat} {acc : List (Nat × FP)} {dst : Option Nat} {g : Option (Nat × Bool)} {op : ROp} {anc : Nat} {os : List ROper} {fr : Fr} {st st' : St} {Q : Post} {v} :
    stepKD E i acc ⟨dst, g, op, anc⟩ os fr st Q (.val v) st' ↔ clashes acc anc { fpOf op (ev fr) st with al := st'.h.length != st.h.length } = false ∧ DD E (i + 1) ((i, { fpOf op (ev fr) st with al := st'.h.length != st.h.length }) :: acc) os (putD fr dst v) st' Q := Iff.rfl
theorem DD_step' {i : Nat} {acc : List (Nat × FP)} {dst : Option Nat} {anc : Nat} {op : ROp} {os : List ROper} {fr st} {Q : Post} (hop : isCall op = false) :
    DD E i acc (⟨dst, none, op, anc⟩ :: os) fr st Q ↔ stepW op (ev fr) st (stepKD E i acc ⟨dst, none, op, anc⟩ os fr st Q) := by
  have hd : ∀ c : CallF, opD c op (ev fr) st = match step op (ev fr) st with
    | some (.val v, st') => some (v, st', { fpOf op (ev fr) st with al := st'.h.length != st.h.length })
    | _ => none := by intro c; cases op <;> first | rfl | simp [isCall] at hop
  unfold DD stepW
  simp only [runOpsD, wanted, if_true, hd]
  constructor
  · rintro ⟨n, e, fr', st', h, hq⟩
    split at h
    · rename_i v st1 fp hs
      split at hs
      · rename_i v' st1' hs'
        simp only [Option.some.injEq, Prod.mk.injEq] at hs
        obtain ⟨rfl, rfl, rfl⟩ := hs
        split at h
        · cases h
        · rename_i hcl
          exact ⟨_, _, hs', by simpa using hcl, n, _, _, _, h, hq⟩
      · cases hs
    · cases h
  · rintro ⟨r, st1, hs, hq⟩
    rw [hs]
    cases r with
    | val v =>
      obtain ⟨hcl, n, e, fr', st', h, hq⟩ := hq
      exact ⟨n, e, fr', st', by simp only at hcl ⊢; rw [if_neg (by simpa using hcl)]; exact h, hq⟩
    | pan v => exact hq.elim
def callKD (E : Env) (i : Nat) (acc : List (Nat × FP)) (dst : Option Nat) (anc : Nat) (os : List ROper) (fr : Fr) (st : St) (Q : Post) : Out → St → Prop
  | .ret v, st' => clashes acc anc { all := true, bad := decide (st'.fl < st.h.length), al := st'.h.length != st.h.length } = false ∧ DD E (i + 1) ((i, { all := true, bad := decide (st'.fl < st.h.length), al := st'.h.length != st.h.length }) :: acc) os (putD fr dst v) (joined st st') Q
  | .pan _, _ => False
@[simp] theorem callKD_ret {i : Nat} {acc : List (Nat × FP)} {dst : Option Nat} {anc : Nat} {os : List ROper} {fr : Fr} {st st' : St} {Q : Post} {v} :
    callKD E i acc dst anc os fr st Q (.ret v) st' ↔ clashes acc anc { all := true, bad := decide (st'.fl < st.h.length), al := st'.h.length != st.h.length } = false ∧ DD E (i + 1) ((i, { all := true, bad := decide (st'.fl < st.h.length), al := st'.h.length != st.h.length }) :: acc) os (putD fr dst v) (joined st st') Q := Iff.rfl
theorem DD_call' {i : Nat} {acc : List (Nat × FP)} {dst : Option Nat} {anc : Nat} {f : Operand} {args : List Operand} {os : List ROper} {fr st} {Q : Post} :
    DD E i acc (⟨dst, none, .call f args, anc⟩ :: os) fr st Q ↔ isY (ev fr f) = false ∧ ∃ h vs, target (ev fr f) (args.map (ev fr)) = some (h, vs) ∧ DC E h vs { st with fl := st.h.length } (callKD E i acc dst anc os fr st Q) := by
  unfold DD
  simp only [runOpsD, wanted, if_true, opD, doCall]
  constructor
  · rintro ⟨n, e, fr', st', h, hq⟩
    split at h
    · rename_i v st1 fp hs
      split at hs
      · cases hs
      rename_i hy
      split at hs
      · rename_i v' st1' hs'
        simp only [Option.some.injEq, Prod.mk.injEq] at hs
        obtain ⟨rfl, rfl, rfl⟩ := hs
        split at hs'
        · rename_i g vs ht
          split at h
          · cases h
          · rename_i hcl
            refine ⟨by simpa using hy, g, vs, ht, _, _, ⟨n, hs'⟩, ?_, n, _, _, _, h, hq⟩
            simpa [joined] using hcl
        · cases hs'
      · cases hs
    · cases h
  · rintro ⟨hy, g, vs, ht, o, st1, ⟨n, hs⟩, hq⟩
    rw [ht]
    simp only [hy, Bool.false_eq_true, if_false]
    cases o with
    | ret v =>
      obtain ⟨hcl, m, e, fr', st', h, hq⟩ := hq
      refine ⟨max n m, e, fr', st', ?_, hq⟩
      simp only [call_mono (Nat.le_max_left n m) hs]
      rw [if_neg (by simpa [joined] using hcl)]
      exact runOpsD_mono (fun f a st x hx => call_mono (Nat.le_max_right n m) hx) _ _ _ _ _ _ h
    | pan v => exact hq.elim
theorem DD_guard {i : Nat} {acc : List (Nat × FP)} {dst : Option Nat} {s : Nat} {want : Bool} {anc : Nat} {op : ROp} {os : List ROper} {fr st} {Q : Post} :
    DD E i acc (⟨dst, some (s, want), op, anc⟩ :: os) fr st Q ↔ (isW (get fr s) want = true → DD E i acc (⟨dst, none, op, anc⟩ :: os) fr st Q) ∧ (isW (get fr s) want = false → DD E (i + 1) acc os (putD fr dst undef) st Q) := by
  rw [← wanted_isW]
  cases h : wanted fr (some (s, want)) with
  | true =>
    have : DD E i acc (⟨dst, some (s, want), op, anc⟩ :: os) fr st Q ↔ DD E i acc (⟨dst, none, op, anc⟩ :: os) fr st Q := by
      unfold DD
      simp only [runOpsD, h, if_true]
      exact Iff.rfl
    simp [this]
  | false =>
    have : DD E i acc (⟨dst, some (s, want), op, anc⟩ :: os) fr st Q ↔ DD E (i + 1) acc os (putD fr dst undef) st Q := by
      unfold DD
      simp only [runOpsD, h]
      exact Iff.rfl
    simp [this]

end Go.Ai
namespace Go.Ai
set_option linter.unusedSimpArgs false
set_option linter.unusedVariables false
variable {E : Env} {e : Operand → Value} {st : St}

attribute [simp] get_put
@[simp] theorem putD_some (fr : Fr) (d : Nat) (v : Value) : putD fr (some d) v = put fr d v := rfl
@[simp] theorem putD_none (fr : Fr) (v : Value) : putD fr none v = fr := rfl
@[simp] theorem get_cons_zero (v : Value) (l : List Value) : get (v :: l) 0 = v := rfl
@[simp] theorem get_cons_succ (v : Value) (l : List Value) (i : Nat) : get (v :: l) (i + 1) = get l i := rfl
@[simp] theorem get_cons_lit (v : Value) (l : List Value) (i : Nat) : get (v :: l) (OfNat.ofNat (i + 1)) = get l i := rfl
@[simp] theorem ev_tmp (fr : Fr) (t : Nat) : ev fr (.tmp t) = get fr t := rfl
@[simp] theorem ev_const (fr : Fr) (v : Value) : ev fr (.const v) = v := rfl
@[simp] theorem ev_func (fr : Fr) (f : FuncId) : ev fr (.func f) = .func (.func f) #[] #[] := rfl
@[simp] theorem target_func (f : FuncId) (first captured : Array Value) (args : List Value) (hf : @LT.lt Nat instLTNat f 1099511627776) : target (.func (.func f) first captured) args = some (f, first.toList ++ args ++ captured.toList) := if_pos hf
@[simp] theorem target_yield (k : Nat) (first captured : Array Value) (args : List Value) : target (.func (.yield k) first captured) args = some (yB + k, args) := rfl
@[simp] theorem isY_func (f : FuncId) (first captured : Array Value) : isY (.func (.func f) first captured) = false := rfl

/-! ### Ways on, which are not looked into before it is their turn -/
def resQ (x : Option (Res × St)) (Q : Res → St → Prop) : Prop := ∃ r st', x = some (r, st') ∧ Q r st'
@[simp] theorem resQ_some {r st'} {Q : Res → St → Prop} : resQ (some (r, st')) Q ↔ Q r st' := by
  constructor
  · rintro ⟨_, _, h, hq⟩; cases h; exact hq
  · intro h; exact ⟨_, _, rfl, h⟩
theorem stepW_res {op : ROp} {Q : Res → St → Prop} : stepW op e st Q ↔ resQ (step op e st) Q := Iff.rfl
def valS (x : Option Value) (st : St) : Option (Res × St) := x.map fun v => (.val v, st)
@[simp] theorem valS_some {v : Value} : valS (some v) st = some (.val v, st) := rfl
def memS (x : Option (Value × St)) : Option (Res × St) := x.map fun r => (.val r.1, r.2)
@[simp] theorem memS_some {v : Value} {st' : St} : memS (some (v, st')) = some (.val v, st') := rfl
def condK (E : Env) (t el : R) (Q : Post) (fr : Fr) (st : St) (v : Value) : Prop := ∃ b, v = .bool b ∧ (b = true → DW E t fr st Q) ∧ (b = false → DW E el fr st Q)
@[simp] theorem condK_true {t el : R} {Q : Post} {fr st} : condK E t el Q fr st (.bool true) ↔ DW E t fr st Q := by simp [condK]
@[simp] theorem condK_false {t el : R} {Q : Post} {fr st} : condK E t el Q fr st (.bool false) ↔ DW E el fr st Q := by simp [condK]
theorem DW_condK {c : Operand} {t el : R} {fr st} {Q : Post} : DW E (.cond c t el) fr st Q ↔ condK E t el Q fr st (ev fr c) := DW_cond
attribute [simp] DW_condK
def guardK (E : Env) (dst : Option Nat) (op : ROp) (anc : Nat) (os : List ROper) (fr : Fr) (st : St) (Q : Post) (b : Bool) : Prop :=
  (b = true → DL E (⟨dst, none, op, anc⟩ :: os) fr st Q) ∧ (b = false → DL E os (putD fr dst undef) st Q)
@[simp] theorem guardK_true {dst op anc os fr st} {Q : Post} : guardK E dst op anc os fr st Q true ↔ DL E (⟨dst, none, op, anc⟩ :: os) fr st Q := by simp [guardK]
@[simp] theorem guardK_false {dst op anc os fr st} {Q : Post} : guardK E dst op anc os fr st Q false ↔ DL E os (putD fr dst undef) st Q := by simp [guardK]
theorem DL_guardK {dst : Option Nat} {s : Nat} {want : Bool} {anc : Nat} {op : ROp} {os : List ROper} {fr st} {Q : Post} :
    DL E (⟨dst, some (s, want), op, anc⟩ :: os) fr st Q ↔ guardK E dst op anc os fr st Q (isW (get fr s) want) := DL_guard
attribute [simp] DL_guardK
def guardKD (E : Env) (i : Nat) (acc : List (Nat × FP)) (dst : Option Nat) (op : ROp) (anc : Nat) (os : List ROper) (fr : Fr) (st : St) (Q : Post) (b : Bool) : Prop :=
  (b = true → DD E i acc (⟨dst, none, op, anc⟩ :: os) fr st Q) ∧ (b = false → DD E (i + 1) acc os (putD fr dst undef) st Q)
@[simp] theorem guardKD_true {i acc dst op anc os fr st} {Q : Post} : guardKD E i acc dst op anc os fr st Q true ↔ DD E i acc (⟨dst, none, op, anc⟩ :: os) fr st Q := by simp [guardKD]
@[simp] theorem guardKD_false {i acc dst op anc os fr st} {Q : Post} : guardKD E i acc dst op anc os fr st Q false ↔ DD E (i + 1) acc os (putD fr dst undef) st Q := by simp [guardKD]
theorem DD_guardK {i : Nat} {acc : List (Nat × FP)} {dst : Option Nat} {s : Nat} {want : Bool} {anc : Nat} {op : ROp} {os : List ROper} {fr st} {Q : Post} :
    DD E i acc (⟨dst, some (s, want), op, anc⟩ :: os) fr st Q ↔ guardKD E i acc dst op anc os fr st Q (isW (get fr s) want) := DD_guard
attribute [simp] DD_guardK
def tgtQ (E : Env) (x : Option (FuncId × List Value)) (st : St) (K : Out → St → Prop) : Prop := ∃ h vs, x = some (h, vs) ∧ DC E h vs { st with fl := st.h.length } K
@[simp] theorem tgtQ_some {f vs} {st : St} {K : Out → St → Prop} : tgtQ E (some (f, vs)) st K ↔ DC E f vs ⟨st.h, st.h.length⟩ K := by
  constructor
  · rintro ⟨_, _, h, hq⟩; cases h; exact hq
  · intro h; exact ⟨_, _, rfl, h⟩
theorem DL_callK {dst : Option Nat} {anc : Nat} {f : Operand} {args : List Operand} {os : List ROper} {fr st} {Q : Post} :
    DL E (⟨dst, none, .call f args, anc⟩ :: os) fr st Q ↔ tgtQ E (target (ev fr f) (args.map (ev fr))) st (callK E dst os fr st Q) := DL_call'
theorem DD_callK {i : Nat} {acc : List (Nat × FP)} {dst : Option Nat} {anc : Nat} {f : Operand} {args : List Operand} {os : List ROper} {fr st} {Q : Post} :
    DD E i acc (⟨dst, none, .call f args, anc⟩ :: os) fr st Q ↔ isY (ev fr f) = false ∧ tgtQ E (target (ev fr f) (args.map (ev fr))) st (callKD E i acc dst anc os fr st Q) := DD_call'
attribute [simp] DL_callK DD_callK
def outQ (x : Option Value) (st st' : St) (Q : Out → St → Prop) : Prop := ∃ v, x = some v ∧ Q (back st (.ret v) st').1 (back st (.ret v) st').2
def pairQ (x : Out × St) (Q : Out → St → Prop) : Prop := Q x.1 x.2
@[simp] theorem pairQ_mk {o st} {Q : Out → St → Prop} : pairQ (o, st) Q ↔ Q o st := Iff.rfl
@[simp] theorem outQ_some {v : Value} {st st' : St} {Q : Out → St → Prop} : outQ (some v) st st' Q ↔ pairQ (back st (.ret v) st') Q := by
  constructor
  · rintro ⟨_, h, hq⟩; cases h; exact hq
  · intro h; exact ⟨_, rfl, h⟩
theorem endK_normalQ {res : List RRes} {st st' : St} {Q : Out → St → Prop} {fr} : endK res st Q .normal fr st' ↔ outQ (resV fr st'.h res) st st' Q := Iff.rfl
theorem endK_retQ {res : List RRes} {st st' : St} {Q : Out → St → Prop} {fr} : endK res st Q .ret fr st' ↔ outQ (resV fr st'.h res) st st' Q := Iff.rfl
theorem endK_panQ {res : List RRes} {st st' : St} {Q : Out → St → Prop} {fr v} : endK res st Q (.pan v) fr st' ↔ pairQ (back st (.pan v) st') Q := Iff.rfl
attribute [simp] endK_normalQ endK_retQ endK_panQ

@[simp] theorem DL_mv {a} {dst : Option Nat} {anc : Nat} {os : List ROper} {fr st} {Q : Post} : DL E (⟨dst, none, .mv a, anc⟩ :: os) fr st Q ↔ resQ (step (.mv a) (ev fr) st) (stepK E dst os fr Q) := (DL_step' rfl).trans stepW_res
@[simp] theorem DD_mv {a} {i : Nat} {acc : List (Nat × FP)} {dst : Option Nat} {anc : Nat} {os : List ROper} {fr st} {Q : Post} : DD E i acc (⟨dst, none, .mv a, anc⟩ :: os) fr st Q ↔ resQ (step (.mv a) (ev fr) st) (stepKD E i acc ⟨dst, none, .mv a, anc⟩ os fr st Q) := (DD_step' rfl).trans stepW_res
@[simp] theorem DL_pick {a b c} {dst : Option Nat} {anc : Nat} {os : List ROper} {fr st} {Q : Post} : DL E (⟨dst, none, .pick a b c, anc⟩ :: os) fr st Q ↔ resQ (step (.pick a b c) (ev fr) st) (stepK E dst os fr Q) := (DL_step' rfl).trans stepW_res
@[simp] theorem DD_pick {a b c} {i : Nat} {acc : List (Nat × FP)} {dst : Option Nat} {anc : Nat} {os : List ROper} {fr st} {Q : Post} : DD E i acc (⟨dst, none, .pick a b c, anc⟩ :: os) fr st Q ↔ resQ (step (.pick a b c) (ev fr) st) (stepKD E i acc ⟨dst, none, .pick a b c, anc⟩ os fr st Q) := (DD_step' rfl).trans stepW_res
@[simp] theorem DL_new {a b} {dst : Option Nat} {anc : Nat} {os : List ROper} {fr st} {Q : Post} : DL E (⟨dst, none, .new a b, anc⟩ :: os) fr st Q ↔ resQ (step (.new a b) (ev fr) st) (stepK E dst os fr Q) := (DL_step' rfl).trans stepW_res
@[simp] theorem DD_new {a b} {i : Nat} {acc : List (Nat × FP)} {dst : Option Nat} {anc : Nat} {os : List ROper} {fr st} {Q : Post} : DD E i acc (⟨dst, none, .new a b, anc⟩ :: os) fr st Q ↔ resQ (step (.new a b) (ev fr) st) (stepKD E i acc ⟨dst, none, .new a b, anc⟩ os fr st Q) := (DD_step' rfl).trans stepW_res
@[simp] theorem DL_box {a b} {dst : Option Nat} {anc : Nat} {os : List ROper} {fr st} {Q : Post} : DL E (⟨dst, none, .box a b, anc⟩ :: os) fr st Q ↔ resQ (step (.box a b) (ev fr) st) (stepK E dst os fr Q) := (DL_step' rfl).trans stepW_res
@[simp] theorem DD_box {a b} {i : Nat} {acc : List (Nat × FP)} {dst : Option Nat} {anc : Nat} {os : List ROper} {fr st} {Q : Post} : DD E i acc (⟨dst, none, .box a b, anc⟩ :: os) fr st Q ↔ resQ (step (.box a b) (ev fr) st) (stepKD E i acc ⟨dst, none, .box a b, anc⟩ os fr st Q) := (DD_step' rfl).trans stepW_res
@[simp] theorem DL_build {a b} {dst : Option Nat} {anc : Nat} {os : List ROper} {fr st} {Q : Post} : DL E (⟨dst, none, .build a b, anc⟩ :: os) fr st Q ↔ resQ (step (.build a b) (ev fr) st) (stepK E dst os fr Q) := (DL_step' rfl).trans stepW_res
@[simp] theorem DD_build {a b} {i : Nat} {acc : List (Nat × FP)} {dst : Option Nat} {anc : Nat} {os : List ROper} {fr st} {Q : Post} : DD E i acc (⟨dst, none, .build a b, anc⟩ :: os) fr st Q ↔ resQ (step (.build a b) (ev fr) st) (stepKD E i acc ⟨dst, none, .build a b, anc⟩ os fr st Q) := (DD_step' rfl).trans stepW_res
@[simp] theorem DL_buildSlice {a b c d} {dst : Option Nat} {anc : Nat} {os : List ROper} {fr st} {Q : Post} : DL E (⟨dst, none, .buildSlice a b c d, anc⟩ :: os) fr st Q ↔ resQ (step (.buildSlice a b c d) (ev fr) st) (stepK E dst os fr Q) := (DL_step' rfl).trans stepW_res
@[simp] theorem DD_buildSlice {a b c d} {i : Nat} {acc : List (Nat × FP)} {dst : Option Nat} {anc : Nat} {os : List ROper} {fr st} {Q : Post} : DD E i acc (⟨dst, none, .buildSlice a b c d, anc⟩ :: os) fr st Q ↔ resQ (step (.buildSlice a b c d) (ev fr) st) (stepKD E i acc ⟨dst, none, .buildSlice a b c d, anc⟩ os fr st Q) := (DD_step' rfl).trans stepW_res
@[simp] theorem DL_load {a b} {dst : Option Nat} {anc : Nat} {os : List ROper} {fr st} {Q : Post} : DL E (⟨dst, none, .load a b, anc⟩ :: os) fr st Q ↔ resQ (step (.load a b) (ev fr) st) (stepK E dst os fr Q) := (DL_step' rfl).trans stepW_res
@[simp] theorem DD_load {a b} {i : Nat} {acc : List (Nat × FP)} {dst : Option Nat} {anc : Nat} {os : List ROper} {fr st} {Q : Post} : DD E i acc (⟨dst, none, .load a b, anc⟩ :: os) fr st Q ↔ resQ (step (.load a b) (ev fr) st) (stepKD E i acc ⟨dst, none, .load a b, anc⟩ os fr st Q) := (DD_step' rfl).trans stepW_res
@[simp] theorem DL_store {a b c} {dst : Option Nat} {anc : Nat} {os : List ROper} {fr st} {Q : Post} : DL E (⟨dst, none, .store a b c, anc⟩ :: os) fr st Q ↔ resQ (step (.store a b c) (ev fr) st) (stepK E dst os fr Q) := (DL_step' rfl).trans stepW_res
@[simp] theorem DD_store {a b c} {i : Nat} {acc : List (Nat × FP)} {dst : Option Nat} {anc : Nat} {os : List ROper} {fr st} {Q : Post} : DD E i acc (⟨dst, none, .store a b c, anc⟩ :: os) fr st Q ↔ resQ (step (.store a b c) (ev fr) st) (stepKD E i acc ⟨dst, none, .store a b c, anc⟩ os fr st Q) := (DD_step' rfl).trans stepW_res
@[simp] theorem DL_nilchk {a} {dst : Option Nat} {anc : Nat} {os : List ROper} {fr st} {Q : Post} : DL E (⟨dst, none, .nilchk a, anc⟩ :: os) fr st Q ↔ resQ (step (.nilchk a) (ev fr) st) (stepK E dst os fr Q) := (DL_step' rfl).trans stepW_res
@[simp] theorem DD_nilchk {a} {i : Nat} {acc : List (Nat × FP)} {dst : Option Nat} {anc : Nat} {os : List ROper} {fr st} {Q : Post} : DD E i acc (⟨dst, none, .nilchk a, anc⟩ :: os) fr st Q ↔ resQ (step (.nilchk a) (ev fr) st) (stepKD E i acc ⟨dst, none, .nilchk a, anc⟩ os fr st Q) := (DD_step' rfl).trans stepW_res
@[simp] theorem DL_bin {a b c} {dst : Option Nat} {anc : Nat} {os : List ROper} {fr st} {Q : Post} : DL E (⟨dst, none, .bin a b c, anc⟩ :: os) fr st Q ↔ resQ (step (.bin a b c) (ev fr) st) (stepK E dst os fr Q) := (DL_step' rfl).trans stepW_res
@[simp] theorem DD_bin {a b c} {i : Nat} {acc : List (Nat × FP)} {dst : Option Nat} {anc : Nat} {os : List ROper} {fr st} {Q : Post} : DD E i acc (⟨dst, none, .bin a b c, anc⟩ :: os) fr st Q ↔ resQ (step (.bin a b c) (ev fr) st) (stepKD E i acc ⟨dst, none, .bin a b c, anc⟩ os fr st Q) := (DD_step' rfl).trans stepW_res
@[simp] theorem DL_binB {a b c} {dst : Option Nat} {anc : Nat} {os : List ROper} {fr st} {Q : Post} : DL E (⟨dst, none, .binB a b c, anc⟩ :: os) fr st Q ↔ resQ (step (.binB a b c) (ev fr) st) (stepK E dst os fr Q) := (DL_step' rfl).trans stepW_res
@[simp] theorem DD_binB {a b c} {i : Nat} {acc : List (Nat × FP)} {dst : Option Nat} {anc : Nat} {os : List ROper} {fr st} {Q : Post} : DD E i acc (⟨dst, none, .binB a b c, anc⟩ :: os) fr st Q ↔ resQ (step (.binB a b c) (ev fr) st) (stepKD E i acc ⟨dst, none, .binB a b c, anc⟩ os fr st Q) := (DD_step' rfl).trans stepW_res
@[simp] theorem DL_eqNil {a b c} {dst : Option Nat} {anc : Nat} {os : List ROper} {fr st} {Q : Post} : DL E (⟨dst, none, .eqNil a b c, anc⟩ :: os) fr st Q ↔ resQ (step (.eqNil a b c) (ev fr) st) (stepK E dst os fr Q) := (DL_step' rfl).trans stepW_res
@[simp] theorem DD_eqNil {a b c} {i : Nat} {acc : List (Nat × FP)} {dst : Option Nat} {anc : Nat} {os : List ROper} {fr st} {Q : Post} : DD E i acc (⟨dst, none, .eqNil a b c, anc⟩ :: os) fr st Q ↔ resQ (step (.eqNil a b c) (ev fr) st) (stepKD E i acc ⟨dst, none, .eqNil a b c, anc⟩ os fr st Q) := (DD_step' rfl).trans stepW_res
@[simp] theorem DL_eqAgg {a b c d} {dst : Option Nat} {anc : Nat} {os : List ROper} {fr st} {Q : Post} : DL E (⟨dst, none, .eqAgg a b c d, anc⟩ :: os) fr st Q ↔ resQ (step (.eqAgg a b c d) (ev fr) st) (stepK E dst os fr Q) := (DL_step' rfl).trans stepW_res
@[simp] theorem DD_eqAgg {a b c d} {i : Nat} {acc : List (Nat × FP)} {dst : Option Nat} {anc : Nat} {os : List ROper} {fr st} {Q : Post} : DD E i acc (⟨dst, none, .eqAgg a b c d, anc⟩ :: os) fr st Q ↔ resQ (step (.eqAgg a b c d) (ev fr) st) (stepKD E i acc ⟨dst, none, .eqAgg a b c d, anc⟩ os fr st Q) := (DD_step' rfl).trans stepW_res
@[simp] theorem DL_un {a b} {dst : Option Nat} {anc : Nat} {os : List ROper} {fr st} {Q : Post} : DL E (⟨dst, none, .un a b, anc⟩ :: os) fr st Q ↔ resQ (step (.un a b) (ev fr) st) (stepK E dst os fr Q) := (DL_step' rfl).trans stepW_res
@[simp] theorem DD_un {a b} {i : Nat} {acc : List (Nat × FP)} {dst : Option Nat} {anc : Nat} {os : List ROper} {fr st} {Q : Post} : DD E i acc (⟨dst, none, .un a b, anc⟩ :: os) fr st Q ↔ resQ (step (.un a b) (ev fr) st) (stepKD E i acc ⟨dst, none, .un a b, anc⟩ os fr st Q) := (DD_step' rfl).trans stepW_res
@[simp] theorem DL_conv {a b} {dst : Option Nat} {anc : Nat} {os : List ROper} {fr st} {Q : Post} : DL E (⟨dst, none, .conv a b, anc⟩ :: os) fr st Q ↔ resQ (step (.conv a b) (ev fr) st) (stepK E dst os fr Q) := (DL_step' rfl).trans stepW_res
@[simp] theorem DD_conv {a b} {i : Nat} {acc : List (Nat × FP)} {dst : Option Nat} {anc : Nat} {os : List ROper} {fr st} {Q : Post} : DD E i acc (⟨dst, none, .conv a b, anc⟩ :: os) fr st Q ↔ resQ (step (.conv a b) (ev fr) st) (stepKD E i acc ⟨dst, none, .conv a b, anc⟩ os fr st Q) := (DD_step' rfl).trans stepW_res
@[simp] theorem DL_mkIface {a b} {dst : Option Nat} {anc : Nat} {os : List ROper} {fr st} {Q : Post} : DL E (⟨dst, none, .mkIface a b, anc⟩ :: os) fr st Q ↔ resQ (step (.mkIface a b) (ev fr) st) (stepK E dst os fr Q) := (DL_step' rfl).trans stepW_res
@[simp] theorem DD_mkIface {a b} {i : Nat} {acc : List (Nat × FP)} {dst : Option Nat} {anc : Nat} {os : List ROper} {fr st} {Q : Post} : DD E i acc (⟨dst, none, .mkIface a b, anc⟩ :: os) fr st Q ↔ resQ (step (.mkIface a b) (ev fr) st) (stepKD E i acc ⟨dst, none, .mkIface a b, anc⟩ os fr st Q) := (DD_step' rfl).trans stepW_res
@[simp] theorem DL_mkf {a b} {dst : Option Nat} {anc : Nat} {os : List ROper} {fr st} {Q : Post} : DL E (⟨dst, none, .mkf a b, anc⟩ :: os) fr st Q ↔ resQ (step (.mkf a b) (ev fr) st) (stepK E dst os fr Q) := (DL_step' rfl).trans stepW_res
@[simp] theorem DD_mkf {a b} {i : Nat} {acc : List (Nat × FP)} {dst : Option Nat} {anc : Nat} {os : List ROper} {fr st} {Q : Post} : DD E i acc (⟨dst, none, .mkf a b, anc⟩ :: os) fr st Q ↔ resQ (step (.mkf a b) (ev fr) st) (stepKD E i acc ⟨dst, none, .mkf a b, anc⟩ os fr st Q) := (DD_step' rfl).trans stepW_res
@[simp] theorem DL_mkMap {dst : Option Nat} {anc : Nat} {os : List ROper} {fr st} {Q : Post} : DL E (⟨dst, none, .mkMap, anc⟩ :: os) fr st Q ↔ resQ (step (.mkMap) (ev fr) st) (stepK E dst os fr Q) := (DL_step' rfl).trans stepW_res
@[simp] theorem DD_mkMap {i : Nat} {acc : List (Nat × FP)} {dst : Option Nat} {anc : Nat} {os : List ROper} {fr st} {Q : Post} : DD E i acc (⟨dst, none, .mkMap, anc⟩ :: os) fr st Q ↔ resQ (step (.mkMap) (ev fr) st) (stepKD E i acc ⟨dst, none, .mkMap, anc⟩ os fr st Q) := (DD_step' rfl).trans stepW_res
@[simp] theorem DL_mkSlice {a b c d f'} {dst : Option Nat} {anc : Nat} {os : List ROper} {fr st} {Q : Post} : DL E (⟨dst, none, .mkSlice a b c d f', anc⟩ :: os) fr st Q ↔ resQ (step (.mkSlice a b c d f') (ev fr) st) (stepK E dst os fr Q) := (DL_step' rfl).trans stepW_res
@[simp] theorem DD_mkSlice {a b c d f'} {i : Nat} {acc : List (Nat × FP)} {dst : Option Nat} {anc : Nat} {os : List ROper} {fr st} {Q : Post} : DD E i acc (⟨dst, none, .mkSlice a b c d f', anc⟩ :: os) fr st Q ↔ resQ (step (.mkSlice a b c d f') (ev fr) st) (stepKD E i acc ⟨dst, none, .mkSlice a b c d f', anc⟩ os fr st Q) := (DD_step' rfl).trans stepW_res
@[simp] theorem DL_slice {a b c d f'} {dst : Option Nat} {anc : Nat} {os : List ROper} {fr st} {Q : Post} : DL E (⟨dst, none, .slice a b c d f', anc⟩ :: os) fr st Q ↔ resQ (step (.slice a b c d f') (ev fr) st) (stepK E dst os fr Q) := (DL_step' rfl).trans stepW_res
@[simp] theorem DD_slice {a b c d f'} {i : Nat} {acc : List (Nat × FP)} {dst : Option Nat} {anc : Nat} {os : List ROper} {fr st} {Q : Post} : DD E i acc (⟨dst, none, .slice a b c d f', anc⟩ :: os) fr st Q ↔ resQ (step (.slice a b c d f') (ev fr) st) (stepKD E i acc ⟨dst, none, .slice a b c d f', anc⟩ os fr st Q) := (DD_step' rfl).trans stepW_res
@[simp] theorem DL_faddr {a b} {dst : Option Nat} {anc : Nat} {os : List ROper} {fr st} {Q : Post} : DL E (⟨dst, none, .faddr a b, anc⟩ :: os) fr st Q ↔ resQ (step (.faddr a b) (ev fr) st) (stepK E dst os fr Q) := (DL_step' rfl).trans stepW_res
@[simp] theorem DD_faddr {a b} {i : Nat} {acc : List (Nat × FP)} {dst : Option Nat} {anc : Nat} {os : List ROper} {fr st} {Q : Post} : DD E i acc (⟨dst, none, .faddr a b, anc⟩ :: os) fr st Q ↔ resQ (step (.faddr a b) (ev fr) st) (stepKD E i acc ⟨dst, none, .faddr a b, anc⟩ os fr st Q) := (DD_step' rfl).trans stepW_res
@[simp] theorem DL_field {a b c} {dst : Option Nat} {anc : Nat} {os : List ROper} {fr st} {Q : Post} : DL E (⟨dst, none, .field a b c, anc⟩ :: os) fr st Q ↔ resQ (step (.field a b c) (ev fr) st) (stepK E dst os fr Q) := (DL_step' rfl).trans stepW_res
@[simp] theorem DD_field {a b c} {i : Nat} {acc : List (Nat × FP)} {dst : Option Nat} {anc : Nat} {os : List ROper} {fr st} {Q : Post} : DD E i acc (⟨dst, none, .field a b c, anc⟩ :: os) fr st Q ↔ resQ (step (.field a b c) (ev fr) st) (stepKD E i acc ⟨dst, none, .field a b c, anc⟩ os fr st Q) := (DD_step' rfl).trans stepW_res
@[simp] theorem DL_iaddrS {a b c} {dst : Option Nat} {anc : Nat} {os : List ROper} {fr st} {Q : Post} : DL E (⟨dst, none, .iaddrS a b c, anc⟩ :: os) fr st Q ↔ resQ (step (.iaddrS a b c) (ev fr) st) (stepK E dst os fr Q) := (DL_step' rfl).trans stepW_res
@[simp] theorem DD_iaddrS {a b c} {i : Nat} {acc : List (Nat × FP)} {dst : Option Nat} {anc : Nat} {os : List ROper} {fr st} {Q : Post} : DD E i acc (⟨dst, none, .iaddrS a b c, anc⟩ :: os) fr st Q ↔ resQ (step (.iaddrS a b c) (ev fr) st) (stepKD E i acc ⟨dst, none, .iaddrS a b c, anc⟩ os fr st Q) := (DD_step' rfl).trans stepW_res
@[simp] theorem DL_iaddrA {a b c d} {dst : Option Nat} {anc : Nat} {os : List ROper} {fr st} {Q : Post} : DL E (⟨dst, none, .iaddrA a b c d, anc⟩ :: os) fr st Q ↔ resQ (step (.iaddrA a b c d) (ev fr) st) (stepK E dst os fr Q) := (DL_step' rfl).trans stepW_res
@[simp] theorem DD_iaddrA {a b c d} {i : Nat} {acc : List (Nat × FP)} {dst : Option Nat} {anc : Nat} {os : List ROper} {fr st} {Q : Post} : DD E i acc (⟨dst, none, .iaddrA a b c d, anc⟩ :: os) fr st Q ↔ resQ (step (.iaddrA a b c d) (ev fr) st) (stepKD E i acc ⟨dst, none, .iaddrA a b c d, anc⟩ os fr st Q) := (DD_step' rfl).trans stepW_res
@[simp] theorem DL_indexA {a b c d f'} {dst : Option Nat} {anc : Nat} {os : List ROper} {fr st} {Q : Post} : DL E (⟨dst, none, .indexA a b c d f', anc⟩ :: os) fr st Q ↔ resQ (step (.indexA a b c d f') (ev fr) st) (stepK E dst os fr Q) := (DL_step' rfl).trans stepW_res
@[simp] theorem DD_indexA {a b c d f'} {i : Nat} {acc : List (Nat × FP)} {dst : Option Nat} {anc : Nat} {os : List ROper} {fr st} {Q : Post} : DD E i acc (⟨dst, none, .indexA a b c d f', anc⟩ :: os) fr st Q ↔ resQ (step (.indexA a b c d f') (ev fr) st) (stepKD E i acc ⟨dst, none, .indexA a b c d f', anc⟩ os fr st Q) := (DD_step' rfl).trans stepW_res
@[simp] theorem DL_lookup {a b c d f' g} {dst : Option Nat} {anc : Nat} {os : List ROper} {fr st} {Q : Post} : DL E (⟨dst, none, .lookup a b c d f' g, anc⟩ :: os) fr st Q ↔ resQ (step (.lookup a b c d f' g) (ev fr) st) (stepK E dst os fr Q) := (DL_step' rfl).trans stepW_res
@[simp] theorem DD_lookup {a b c d f' g} {i : Nat} {acc : List (Nat × FP)} {dst : Option Nat} {anc : Nat} {os : List ROper} {fr st} {Q : Post} : DD E i acc (⟨dst, none, .lookup a b c d f' g, anc⟩ :: os) fr st Q ↔ resQ (step (.lookup a b c d f' g) (ev fr) st) (stepKD E i acc ⟨dst, none, .lookup a b c d f' g, anc⟩ os fr st Q) := (DD_step' rfl).trans stepW_res
@[simp] theorem DL_mapUpd {a b c d f'} {dst : Option Nat} {anc : Nat} {os : List ROper} {fr st} {Q : Post} : DL E (⟨dst, none, .mapUpd a b c d f', anc⟩ :: os) fr st Q ↔ resQ (step (.mapUpd a b c d f') (ev fr) st) (stepK E dst os fr Q) := (DL_step' rfl).trans stepW_res
@[simp] theorem DD_mapUpd {a b c d f'} {i : Nat} {acc : List (Nat × FP)} {dst : Option Nat} {anc : Nat} {os : List ROper} {fr st} {Q : Post} : DD E i acc (⟨dst, none, .mapUpd a b c d f', anc⟩ :: os) fr st Q ↔ resQ (step (.mapUpd a b c d f') (ev fr) st) (stepKD E i acc ⟨dst, none, .mapUpd a b c d f', anc⟩ os fr st Q) := (DD_step' rfl).trans stepW_res
@[simp] theorem DL_mapEntry {a b c d f'} {dst : Option Nat} {anc : Nat} {os : List ROper} {fr st} {Q : Post} : DL E (⟨dst, none, .mapEntry a b c d f', anc⟩ :: os) fr st Q ↔ resQ (step (.mapEntry a b c d f') (ev fr) st) (stepK E dst os fr Q) := (DL_step' rfl).trans stepW_res
@[simp] theorem DD_mapEntry {a b c d f'} {i : Nat} {acc : List (Nat × FP)} {dst : Option Nat} {anc : Nat} {os : List ROper} {fr st} {Q : Post} : DD E i acc (⟨dst, none, .mapEntry a b c d f', anc⟩ :: os) fr st Q ↔ resQ (step (.mapEntry a b c d f') (ev fr) st) (stepKD E i acc ⟨dst, none, .mapEntry a b c d f', anc⟩ os fr st Q) := (DD_step' rfl).trans stepW_res
@[simp] theorem DL_entryStore {a b c} {dst : Option Nat} {anc : Nat} {os : List ROper} {fr st} {Q : Post} : DL E (⟨dst, none, .entryStore a b c, anc⟩ :: os) fr st Q ↔ resQ (step (.entryStore a b c) (ev fr) st) (stepK E dst os fr Q) := (DL_step' rfl).trans stepW_res
@[simp] theorem DD_entryStore {a b c} {i : Nat} {acc : List (Nat × FP)} {dst : Option Nat} {anc : Nat} {os : List ROper} {fr st} {Q : Post} : DD E i acc (⟨dst, none, .entryStore a b c, anc⟩ :: os) fr st Q ↔ resQ (step (.entryStore a b c) (ev fr) st) (stepKD E i acc ⟨dst, none, .entryStore a b c, anc⟩ os fr st Q) := (DD_step' rfl).trans stepW_res
@[simp] theorem DL_delete {a b c d} {dst : Option Nat} {anc : Nat} {os : List ROper} {fr st} {Q : Post} : DL E (⟨dst, none, .delete a b c d, anc⟩ :: os) fr st Q ↔ resQ (step (.delete a b c d) (ev fr) st) (stepK E dst os fr Q) := (DL_step' rfl).trans stepW_res
@[simp] theorem DD_delete {a b c d} {i : Nat} {acc : List (Nat × FP)} {dst : Option Nat} {anc : Nat} {os : List ROper} {fr st} {Q : Post} : DD E i acc (⟨dst, none, .delete a b c d, anc⟩ :: os) fr st Q ↔ resQ (step (.delete a b c d) (ev fr) st) (stepKD E i acc ⟨dst, none, .delete a b c d, anc⟩ os fr st Q) := (DD_step' rfl).trans stepW_res
@[simp] theorem DL_range {a} {dst : Option Nat} {anc : Nat} {os : List ROper} {fr st} {Q : Post} : DL E (⟨dst, none, .range a, anc⟩ :: os) fr st Q ↔ resQ (step (.range a) (ev fr) st) (stepK E dst os fr Q) := (DL_step' rfl).trans stepW_res
@[simp] theorem DD_range {a} {i : Nat} {acc : List (Nat × FP)} {dst : Option Nat} {anc : Nat} {os : List ROper} {fr st} {Q : Post} : DD E i acc (⟨dst, none, .range a, anc⟩ :: os) fr st Q ↔ resQ (step (.range a) (ev fr) st) (stepKD E i acc ⟨dst, none, .range a, anc⟩ os fr st Q) := (DD_step' rfl).trans stepW_res
@[simp] theorem DL_next {a} {dst : Option Nat} {anc : Nat} {os : List ROper} {fr st} {Q : Post} : DL E (⟨dst, none, .next a, anc⟩ :: os) fr st Q ↔ resQ (step (.next a) (ev fr) st) (stepK E dst os fr Q) := (DL_step' rfl).trans stepW_res
@[simp] theorem DD_next {a} {i : Nat} {acc : List (Nat × FP)} {dst : Option Nat} {anc : Nat} {os : List ROper} {fr st} {Q : Post} : DD E i acc (⟨dst, none, .next a, anc⟩ :: os) fr st Q ↔ resQ (step (.next a) (ev fr) st) (stepKD E i acc ⟨dst, none, .next a, anc⟩ os fr st Q) := (DD_step' rfl).trans stepW_res
@[simp] theorem DL_entry {a} {dst : Option Nat} {anc : Nat} {os : List ROper} {fr st} {Q : Post} : DL E (⟨dst, none, .entry a, anc⟩ :: os) fr st Q ↔ resQ (step (.entry a) (ev fr) st) (stepK E dst os fr Q) := (DL_step' rfl).trans stepW_res
@[simp] theorem DD_entry {a} {i : Nat} {acc : List (Nat × FP)} {dst : Option Nat} {anc : Nat} {os : List ROper} {fr st} {Q : Post} : DD E i acc (⟨dst, none, .entry a, anc⟩ :: os) fr st Q ↔ resQ (step (.entry a) (ev fr) st) (stepKD E i acc ⟨dst, none, .entry a, anc⟩ os fr st Q) := (DD_step' rfl).trans stepW_res
@[simp] theorem DL_assert {a b c} {dst : Option Nat} {anc : Nat} {os : List ROper} {fr st} {Q : Post} : DL E (⟨dst, none, .assert a b c, anc⟩ :: os) fr st Q ↔ resQ (step (.assert a b c) (ev fr) st) (stepK E dst os fr Q) := (DL_step' rfl).trans stepW_res
@[simp] theorem DD_assert {a b c} {i : Nat} {acc : List (Nat × FP)} {dst : Option Nat} {anc : Nat} {os : List ROper} {fr st} {Q : Post} : DD E i acc (⟨dst, none, .assert a b c, anc⟩ :: os) fr st Q ↔ resQ (step (.assert a b c) (ev fr) st) (stepKD E i acc ⟨dst, none, .assert a b c, anc⟩ os fr st Q) := (DD_step' rfl).trans stepW_res
@[simp] theorem DL_extract {a b} {dst : Option Nat} {anc : Nat} {os : List ROper} {fr st} {Q : Post} : DL E (⟨dst, none, .extract a b, anc⟩ :: os) fr st Q ↔ resQ (step (.extract a b) (ev fr) st) (stepK E dst os fr Q) := (DL_step' rfl).trans stepW_res
@[simp] theorem DD_extract {a b} {i : Nat} {acc : List (Nat × FP)} {dst : Option Nat} {anc : Nat} {os : List ROper} {fr st} {Q : Post} : DD E i acc (⟨dst, none, .extract a b, anc⟩ :: os) fr st Q ↔ resQ (step (.extract a b) (ev fr) st) (stepKD E i acc ⟨dst, none, .extract a b, anc⟩ os fr st Q) := (DD_step' rfl).trans stepW_res
@[simp] theorem DL_len {a b} {dst : Option Nat} {anc : Nat} {os : List ROper} {fr st} {Q : Post} : DL E (⟨dst, none, .len a b, anc⟩ :: os) fr st Q ↔ resQ (step (.len a b) (ev fr) st) (stepK E dst os fr Q) := (DL_step' rfl).trans stepW_res
@[simp] theorem DD_len {a b} {i : Nat} {acc : List (Nat × FP)} {dst : Option Nat} {anc : Nat} {os : List ROper} {fr st} {Q : Post} : DD E i acc (⟨dst, none, .len a b, anc⟩ :: os) fr st Q ↔ resQ (step (.len a b) (ev fr) st) (stepKD E i acc ⟨dst, none, .len a b, anc⟩ os fr st Q) := (DD_step' rfl).trans stepW_res
@[simp] theorem DL_append {a b c d f'} {dst : Option Nat} {anc : Nat} {os : List ROper} {fr st} {Q : Post} : DL E (⟨dst, none, .append a b c d f', anc⟩ :: os) fr st Q ↔ resQ (step (.append a b c d f') (ev fr) st) (stepK E dst os fr Q) := (DL_step' rfl).trans stepW_res
@[simp] theorem DD_append {a b c d f'} {i : Nat} {acc : List (Nat × FP)} {dst : Option Nat} {anc : Nat} {os : List ROper} {fr st} {Q : Post} : DD E i acc (⟨dst, none, .append a b c d f', anc⟩ :: os) fr st Q ↔ resQ (step (.append a b c d f') (ev fr) st) (stepKD E i acc ⟨dst, none, .append a b c d f', anc⟩ os fr st Q) := (DD_step' rfl).trans stepW_res
@[simp] theorem DL_appendZ {a b c d f' g} {dst : Option Nat} {anc : Nat} {os : List ROper} {fr st} {Q : Post} : DL E (⟨dst, none, .appendZ a b c d f' g, anc⟩ :: os) fr st Q ↔ resQ (step (.appendZ a b c d f' g) (ev fr) st) (stepK E dst os fr Q) := (DL_step' rfl).trans stepW_res
@[simp] theorem DD_appendZ {a b c d f' g} {i : Nat} {acc : List (Nat × FP)} {dst : Option Nat} {anc : Nat} {os : List ROper} {fr st} {Q : Post} : DD E i acc (⟨dst, none, .appendZ a b c d f' g, anc⟩ :: os) fr st Q ↔ resQ (step (.appendZ a b c d f' g) (ev fr) st) (stepKD E i acc ⟨dst, none, .appendZ a b c d f' g, anc⟩ os fr st Q) := (DD_step' rfl).trans stepW_res
@[simp] theorem DL_copy {a b c} {dst : Option Nat} {anc : Nat} {os : List ROper} {fr st} {Q : Post} : DL E (⟨dst, none, .copy a b c, anc⟩ :: os) fr st Q ↔ resQ (step (.copy a b c) (ev fr) st) (stepK E dst os fr Q) := (DL_step' rfl).trans stepW_res
@[simp] theorem DD_copy {a b c} {i : Nat} {acc : List (Nat × FP)} {dst : Option Nat} {anc : Nat} {os : List ROper} {fr st} {Q : Post} : DD E i acc (⟨dst, none, .copy a b c, anc⟩ :: os) fr st Q ↔ resQ (step (.copy a b c) (ev fr) st) (stepKD E i acc ⟨dst, none, .copy a b c, anc⟩ os fr st Q) := (DD_step' rfl).trans stepW_res
@[simp] theorem DL_maxmin {a b} {dst : Option Nat} {anc : Nat} {os : List ROper} {fr st} {Q : Post} : DL E (⟨dst, none, .maxmin a b, anc⟩ :: os) fr st Q ↔ resQ (step (.maxmin a b) (ev fr) st) (stepK E dst os fr Q) := (DL_step' rfl).trans stepW_res
@[simp] theorem DD_maxmin {a b} {i : Nat} {acc : List (Nat × FP)} {dst : Option Nat} {anc : Nat} {os : List ROper} {fr st} {Q : Post} : DD E i acc (⟨dst, none, .maxmin a b, anc⟩ :: os) fr st Q ↔ resQ (step (.maxmin a b) (ev fr) st) (stepKD E i acc ⟨dst, none, .maxmin a b, anc⟩ os fr st Q) := (DD_step' rfl).trans stepW_res
@[simp] theorem DL_panic {a} {dst : Option Nat} {anc : Nat} {os : List ROper} {fr st} {Q : Post} : DL E (⟨dst, none, .panic a, anc⟩ :: os) fr st Q ↔ resQ (step (.panic a) (ev fr) st) (stepK E dst os fr Q) := (DL_step' rfl).trans stepW_res
@[simp] theorem DD_panic {a} {i : Nat} {acc : List (Nat × FP)} {dst : Option Nat} {anc : Nat} {os : List ROper} {fr st} {Q : Post} : DD E i acc (⟨dst, none, .panic a, anc⟩ :: os) fr st Q ↔ resQ (step (.panic a) (ev fr) st) (stepKD E i acc ⟨dst, none, .panic a, anc⟩ os fr st Q) := (DD_step' rfl).trans stepW_res

/-! ### The operations -/
@[simp] theorem step_mv {x} : step (.mv x) e st = some (.val (e x), st) := rfl
def pickV (c a b : Value) : Option Value := match c with | .bool t => some (if t then a else b) | _ => none
@[simp] theorem pickV_true {a b} : pickV (.bool true) a b = some a := rfl
@[simp] theorem pickV_false {a b} : pickV (.bool false) a b = some b := rfl
def aggO (x : Option (List Value)) : Option Value := x.map fun l => .agg l.toArray
@[simp] theorem aggO_some {l : List Value} : aggO (some l) = some (.agg l.toArray) := rfl
@[simp] theorem step_pick {c a b} : step (.pick c a b) e st = valS (pickV (e c) (e a) (e b)) st := by
  simp only [step, pickV]; (repeat' split) <;> simp_all [valS, aggO]
@[simp] theorem step_new {elem zero} : step (.new elem zero) e st = some (.val (.pointer (some ⟨st.h.length, 0, none⟩)), { st with h := st.h ++ [.cells zero elem (some 0)] }) := rfl
@[simp] theorem step_box {elem x} : step (.box elem x) e st = some (.val (.pointer (some ⟨st.h.length, 0, none⟩)), { st with h := st.h ++ [.cells (e x).cells.toList elem (some 0)] }) := rfl
@[simp] theorem step_build {zero parts} : step (.build zero parts) e st = valS (aggO (fillL zero (parts.map fun p => (p.1, p.2.1, e p.2.2)))) st := rfl
def newSl (elem : TypeId) (len : Nat) (st : St) (x : Option (List Value)) : Option (Res × St) := x.map fun l => (.val (.slice (some ⟨st.h.length, 0, none⟩) len len), { st with h := st.h ++ [.cells l elem (some 0)] })
@[simp] theorem newSl_some {elem len} {l : List Value} : newSl elem len st (some l) = some (.val (.slice (some ⟨st.h.length, 0, none⟩) len len), { st with h := st.h ++ [.cells l elem (some 0)] }) := rfl
@[simp] theorem step_buildSlice {elem cells len parts} : step (.buildSlice elem cells len parts) e st = if len = 0 then some (.val emptyS, st) else newSl elem len st (fillL cells (parts.map fun p => (p.1, p.2.1, e p.2.2))) := by
  simp only [step]
  split
  · rfl
  · cases fillL cells (parts.map fun p => (p.1, p.2.1, e p.2.2)) <;> rfl
def loadV (h : List O) (v : Value) : Option Value := match v with | .pointer (some ⟨b, i, none⟩) => rd h b i | _ => none
@[simp] theorem loadV_ptr {h b i} : loadV h (.pointer (some ⟨b, i, none⟩)) = rd h b i := rfl
def loadN (h : List O) (n : Nat) (v : Value) : Option (List Value) := match v with | .pointer (some ⟨b, i, none⟩) => rdN h b i n | _ => none
@[simp] theorem loadN_ptr {h b i n} : loadN h n (.pointer (some ⟨b, i, none⟩)) = rdN h b i n := rfl
@[simp] theorem step_load {a} : step (.load none a) e st = valS (loadV st.h (e a)) st := by
  simp only [step, loadV]; (repeat' split) <;> simp_all [valS, aggO]
@[simp] theorem step_loadN {n a} : step (.load (some n) a) e st = valS (aggO (loadN st.h n (e a))) st := by
  simp only [step, loadN]; (repeat' split) <;> simp_all [valS, aggO]
def storeS (st : St) (n : Nat) (a x : Value) : Option (Res × St) := match a with
  | .pointer (some ⟨b, i, none⟩) => if x.cells.toList.length = n then (wrN st.h b i x.cells.toList).map fun h => (.val undef, { st with h, fl := min st.fl b }) else none
  | _ => none
def wroteS (st : St) (b : Nat) (x : Option (List O)) : Option (Res × St) := x.map fun h => (.val undef, { st with h, fl := min st.fl b })
@[simp] theorem wroteS_some {b h} : wroteS st b (some h) = some (.val undef, { st with h, fl := min st.fl b }) := rfl
@[simp] theorem storeS_ptr {n b i x} : storeS st n (.pointer (some ⟨b, i, none⟩)) x = if x.cells.toList.length = n then wroteS st b (wrN st.h b i x.cells.toList) else none := rfl
@[simp] theorem step_store {n n' x} : step (.store n n' x) e st = storeS st n (e n') (e x) := by
  simp only [step, storeS]
  generalize e n' = va
  cases va <;> try rfl
  rename_i a'
  rcases a' with _ | ⟨b, o, _ | s⟩ <;> try rfl
  simp only []
  split
  · cases wrN st.h b o (e x).cells.toList <;> rfl
  · rfl
def nilchkV (v : Value) : Option Value := match v with | .pointer (some a) => some (.pointer (some a)) | _ => none
@[simp] theorem nilchkV_ptr {a} : nilchkV (.pointer (some a)) = some (.pointer (some a)) := rfl
@[simp] theorem step_nilchk {x} : step (.nilchk x) e st = valS (nilchkV (e x)) st := by simp only [step, nilchkV]; (repeat' split) <;> simp_all [valS, aggO]
@[simp] theorem step_bin {op x y} : step (.bin op x y) e st = valS (binV op (e x) (e y)) st := rfl
@[simp] theorem step_binB {op x y} : step (.binB op x y) e st = valS (binBV op (e x) (e y)) st := rfl
@[simp] theorem step_un {op x} : step (.un op x) e st = valS (unV op (e x)) st := rfl
def eqNilV (kind : Nat) (neg : Bool) (v : Value) : Option Value := (isNil kind v).map fun b => .bool (neg != b)
@[simp] theorem eqNil_ptr {neg a} : eqNilV 0 neg (.pointer a) = some (.bool (neg != a.isNone)) := rfl
@[simp] theorem eqNil_slice {neg a n c} : eqNilV 1 neg (.slice a n c) = some (.bool (neg != a.isNone)) := rfl
@[simp] theorem eqNil_map {neg a} : eqNilV 2 neg (.map a) = some (.bool (neg != a.isNone)) := rfl
@[simp] theorem step_eqNil {kind neg x} : step (.eqNil kind neg x) e st = valS (eqNilV kind neg (e x)) st := rfl
def eqAggV (neg : Bool) (a b : Option (List Value)) : Option Value := match a, b with | some a, some b => some (.bool (neg != eqCells a b)) | _, _ => none
@[simp] theorem eqAggV_some {neg a b} : eqAggV neg (some a) (some b) = some (.bool (neg != eqCells a b)) := rfl
@[simp] theorem step_eqAgg {shape neg x y} : step (.eqAgg shape neg x y) e st = valS (eqAggV neg (keyCells shape true (e x)) (keyCells shape true (e y))) st := by
  simp only [step]
  cases keyCells shape true (e x) <;> cases keyCells shape true (e y) <;> rfl
def convV (k : IntKind) (v : Value) : Option Value := match v with | .int _ n => some (.int k (k.wrap n)) | _ => none
@[simp] theorem convV_int {k k' n} : convV k (.int k' n) = some (.int k (k.wrap n)) := rfl
@[simp] theorem step_conv {k x} : step (.conv k x) e st = valS (convV k (e x)) st := by simp only [step, convV]; (repeat' split) <;> simp_all [valS, aggO]
@[simp] theorem step_mkIface {t x} : step (.mkIface t x) e st = some (.val (.iface t (e x)), st) := rfl
@[simp] theorem step_mkf {f cap} : step (.mkf f cap) e st = some (.val (.func (.func f) #[] (cap.map e).toArray), st) := rfl
@[simp] theorem step_mkMap : step .mkMap e st = some (.val (.map (some st.h.length)), { st with h := st.h ++ [.map [] 0] }) := rfl
def mkSl (elem : TypeId) (zero : List Value) (bytes : Nat) (len cap : Value) (st : St) : Option (Res × St) := match len, cap with
  | .int .i64 l, .int .i64 c => if 0 ≤ l ∧ l ≤ c ∧ c * bytes ≤ 2 ^ 47 ∧ c < 2 ^ 62 then some (.val (.slice (some ⟨st.h.length, 0, none⟩) l.toNat c.toNat), { st with h := st.h ++ [.cells (rep c.toNat zero) elem (some 0)] }) else none
  | _, _ => none
@[simp] theorem mkSl_int {elem zero bytes l c} : mkSl elem zero bytes (.int .i64 l) (.int .i64 c) st = if 0 ≤ l ∧ l ≤ c ∧ c * bytes ≤ 2 ^ 47 ∧ c < 2 ^ 62 then some (.val (.slice (some ⟨st.h.length, 0, none⟩) l.toNat c.toNat), { st with h := st.h ++ [.cells (rep c.toNat zero) elem (some 0)] }) else none := rfl
@[simp] theorem step_mkSlice {elem zero bytes len cap} : step (.mkSlice elem zero bytes len cap) e st = mkSl elem zero bytes (e len) (e cap) st := rfl
@[simp] theorem step_slice {size x lo hi mx} : step (.slice size x lo hi mx) e st = valS (sliceV st.h size (e x) (lo.map e) (hi.map e) (mx.map e)) st := rfl
def faddrV (off : Nat) (v : Value) : Option Value := match v with | .pointer (some ⟨b, i, none⟩) => some (.pointer (some ⟨b, i + off, none⟩)) | _ => none
@[simp] theorem faddrV_ptr {off b i} : faddrV off (.pointer (some ⟨b, i, none⟩)) = some (.pointer (some ⟨b, i + off, none⟩)) := rfl
@[simp] theorem step_faddr {off x} : step (.faddr off x) e st = valS (faddrV off (e x)) st := by simp only [step, faddrV]; (repeat' split) <;> simp_all [valS, aggO]
def fieldV (off : Nat) (n : Option Nat) (v : Value) : Option Value := match v with | .agg cs => partL cs.toList off n | _ => none
@[simp] theorem fieldV_agg {off n cs} : fieldV off n (.agg cs) = partL cs.toList off n := rfl
@[simp] theorem step_field {off n x} : step (.field off n x) e st = valS (fieldV off n (e x)) st := by simp only [step, fieldV]; (repeat' split) <;> simp_all [valS, aggO]
def iaddrV (size : Nat) (x i : Value) : Option Value := match x, i with
  | .slice (some ⟨b, o, none⟩) n _, .int _ j => if 0 ≤ j ∧ j < n then some (.pointer (some ⟨b, o + j.toNat * size, none⟩)) else none
  | _, _ => none
@[simp] theorem iaddrV_slice {size b o n c k j} : iaddrV size (.slice (some ⟨b, o, none⟩) n c) (.int k j) = if 0 ≤ j ∧ j < n then some (.pointer (some ⟨b, o + j.toNat * size, none⟩)) else none := rfl
@[simp] theorem step_iaddrS {size x i} : step (.iaddrS size x i) e st = valS (iaddrV size (e x) (e i)) st := by
  simp only [step, iaddrV]
  generalize e x = vx
  generalize e i = vi
  cases vx <;> try rfl
  rename_i a n c
  rcases a with _ | ⟨b, o, _ | s⟩ <;> try rfl
  cases vi <;> try rfl
  simp only []
  split <;> rfl
def iaddrAV (len size : Nat) (x i : Value) : Option Value := match x, i with
  | .pointer (some ⟨b, o, none⟩), .int _ j => if 0 ≤ j ∧ j < len then some (.pointer (some ⟨b, o + j.toNat * size, none⟩)) else none
  | _, _ => none
@[simp] theorem iaddrAV_ptr {len size b o k j} : iaddrAV len size (.pointer (some ⟨b, o, none⟩)) (.int k j) = if 0 ≤ j ∧ j < len then some (.pointer (some ⟨b, o + j.toNat * size, none⟩)) else none := rfl
@[simp] theorem step_iaddrA {len size x i} : step (.iaddrA len size x i) e st = valS (iaddrAV len size (e x) (e i)) st := by
  simp only [step, iaddrAV]
  generalize e x = vx
  generalize e i = vi
  cases vx <;> try rfl
  rename_i a
  rcases a with _ | ⟨b, o, _ | s⟩ <;> try rfl
  cases vi <;> try rfl
  simp only []
  split <;> rfl
def indexAV (len size : Nat) (n : Option Nat) (x i : Value) : Option Value := match x, i with
  | .agg cs, .int _ j => if 0 ≤ j ∧ j < len then partL cs.toList (j.toNat * size) n else none
  | _, _ => none
@[simp] theorem indexAV_agg {len size n cs k j} : indexAV len size n (.agg cs) (.int k j) = if 0 ≤ j ∧ j < len then partL cs.toList (j.toNat * size) n else none := rfl
@[simp] theorem step_indexA {len size n x i} : step (.indexA len size n x i) e st = valS (indexAV len size n (e x) (e i)) st := by
  simp only [step, indexAV]
  generalize e x = vx
  generalize e i = vi
  cases vx <;> try rfl
  cases vi <;> try rfl
  simp only []
  split <;> rfl
def extractV (v : Value) (i : Nat) : Option Value := match v with | .tuple vs => vs.toList[i]? | _ => none
@[simp] theorem extractV_tuple {vs : Array Value} {i} : extractV (.tuple vs) i = vs.toList[i]? := rfl
@[simp] theorem step_extract {x i} : step (.extract x i) e st = valS (extractV (e x) i) st := by simp only [step, extractV]; (repeat' split) <;> simp_all [valS, aggO]
def lenV (h : List O) (kind : Nat) (v : Value) : Option Value := match kind, v with
  | 0, .slice _ n _ => some (.int .i64 n)
  | 1, .string s => some (.int .i64 s.size)
  | 2, .map none => some (.int .i64 0)
  | 2, .map (some b) => match h[b]? with
    | some (.map es _) => some (.int .i64 es.length)
    | _ => none
  | _, _ => none
@[simp] theorem lenV_slice {h a n c} : lenV h 0 (.slice a n c) = some (.int .i64 n) := rfl
@[simp] theorem step_len {kind x} : step (.len kind x) e st = valS (lenV st.h kind (e x)) st := by
  simp only [step]
  generalize e x = vx
  unfold lenV
  rcases kind with _ | _ | _ | k <;> cases vx <;> try rfl
  rename_i a
  cases a with
  | none => rfl
  | some b =>
    simp only []
    cases st.h[b]? with
    | none => rfl
    | some o => cases o <;> rfl
@[simp] theorem step_append {elem size bytes s x} : step (.append elem size bytes s x) e st = memS (appendV elem size bytes (e s) (e x) st) := rfl
@[simp] theorem step_appendZ {elem size bytes zero s x} : step (.appendZ elem size bytes zero s x) e st = memS (appendZV elem size bytes zero (e s) (e x) st) := rfl
@[simp] theorem step_maxmin {isMax xs} : step (.maxmin isMax xs) e st = valS (maxminV isMax (xs.map e)) st := rfl
def panS (v : Value) (st : St) : Option (Res × St) := match v with | .iface t v => some (.pan (.iface t v), st) | _ => none
@[simp] theorem panS_iface {t v} : panS (.iface t v) st = some (.pan (.iface t v), st) := rfl
@[simp] theorem step_panic {x} : step (.panic x) e st = panS (e x) st := by simp only [step, panS]; (repeat' split) <;> simp_all [valS, aggO]
@[simp] theorem cells_agg {cs : Array Value} : (Value.agg cs).cells = cs := rfl
@[simp] theorem cells_int {k n} : (Value.int k n).cells = #[.int k n] := rfl
@[simp] theorem cells_bool {b} : (Value.bool b).cells = #[.bool b] := rfl
@[simp] theorem cells_slice {a n c} : (Value.slice a n c).cells = #[.slice a n c] := rfl
@[simp] theorem cells_ptr {a} : (Value.pointer a).cells = #[.pointer a] := rfl
@[simp] theorem cells_map {a} : (Value.map a).cells = #[.map a] := rfl

/-! ### Numbers -/
@[simp] theorem cast_eq (a b : Nat) : ((a : Int) = (b : Int)) = (a = b) := propext (by omega)
@[simp] theorem cast_lt (a b : Nat) : ((a : Int) < (b : Int)) = (a < b) := propext (by omega)

@[simp] theorem binV_add {k a b} : binV .add (.int k a) (.int k b) = some (.int k (k.wrap (a + b))) := by simp [binV, intBin]
@[simp] theorem binV_sub {k a b} : binV .sub (.int k a) (.int k b) = some (.int k (k.wrap (a - b))) := by simp [binV, intBin]
@[simp] theorem binV_mul {k a b} : binV .mul (.int k a) (.int k b) = some (.int k (k.wrap (a * b))) := by simp [binV, intBin]
@[simp] theorem binV_eql {k a b} : binV .eql (.int k a) (.int k b) = some (.bool (decide (a = b))) := by simp [binV, intBin]; rfl
@[simp] theorem binV_neq {k a b} : binV .neq (.int k a) (.int k b) = some (.bool (!decide (a = b))) := by simp [binV, intBin]; rfl
@[simp] theorem binV_lss {k a b} : binV .lss (.int k a) (.int k b) = some (.bool (decide (a < b))) := by simp [binV, intBin]
@[simp] theorem binV_leq {k a b} : binV .leq (.int k a) (.int k b) = some (.bool (decide (a ≤ b))) := by simp [binV, intBin]
@[simp] theorem binV_gtr {k a b} : binV .gtr (.int k a) (.int k b) = some (.bool (decide (b < a))) := by simp [binV, intBin]
@[simp] theorem binV_geq {k a b} : binV .geq (.int k a) (.int k b) = some (.bool (decide (b ≤ a))) := by simp [binV, intBin]
theorem binV_quo {k a b} (hb : b ≠ 0) : binV .quo (.int k a) (.int k b) = some (.int k (k.wrap (a.tdiv b))) := by simp [binV, intBin, hb]
theorem binV_rem {k a b} (hb : b ≠ 0) : binV .rem (.int k a) (.int k b) = some (.int k (a.tmod b)) := by simp [binV, intBin, hb]
@[simp] theorem unV_neg {k a} : unV .neg (.int k a) = some (.int k (k.wrap (0 - a))) := rfl
@[simp] theorem unV_not {b} : unV .not (.bool b) = some (.bool !b) := rfl
@[simp] theorem binBV_eql {a b} : binBV .eql (.bool a) (.bool b) = some (.bool (a == b)) := rfl
@[simp] theorem binBV_neq {a b} : binBV .neq (.bool a) (.bool b) = some (.bool (a != b)) := rfl
@[simp] theorem maxmin2_nil {m x} : maxmin2 m x [] = some x := rfl
@[simp] theorem maxminV_cons {m x l} : maxminV m (x :: l) = maxmin2 m x l := rfl
@[simp] theorem maxmin2_max {k k' a b l} : maxmin2 true (.int k a) (.int k' b :: l) = maxmin2 true (.int k (max a b)) l := by
  simp only [maxmin2, if_true]
  congr 2
  omega
@[simp] theorem maxmin2_min {k k' a b l} : maxmin2 false (.int k a) (.int k' b :: l) = maxmin2 false (.int k (min a b)) l := by
  simp only [maxmin2]
  congr 2
  simp only [Bool.false_eq_true, if_false]
  omega

abbrev I64 (x : Int) : Prop := -9223372036854775808 ≤ x ∧ x ≤ 9223372036854775807
theorem w64_eq (x : Int) : IntKind.i64.wrap x = (x + 9223372036854775808) % 18446744073709551616 - 9223372036854775808 := by
  simp only [IntKind.wrap, IntKind.signed, IntKind.bits]
  simp
  try omega
theorem w64_id {x : Int} (h1 : -9223372036854775808 ≤ x) (h2 : x ≤ 9223372036854775807) : IntKind.i64.wrap x = x := by
  have := w64_eq x
  omega
theorem w64_in (x : Int) : I64 (IntKind.i64.wrap x) := by rw [w64_eq]; constructor <;> omega
@[simp] theorem w64_add_left (x y : Int) : IntKind.i64.wrap (IntKind.i64.wrap x + y) = IntKind.i64.wrap (x + y) := by rw [w64_eq, w64_eq, w64_eq]; omega
@[simp] theorem w64_add_right (x y : Int) : IntKind.i64.wrap (x + IntKind.i64.wrap y) = IntKind.i64.wrap (x + y) := by rw [w64_eq, w64_eq, w64_eq]; omega
@[simp] theorem w64_sub_left (x y : Int) : IntKind.i64.wrap (IntKind.i64.wrap x - y) = IntKind.i64.wrap (x - y) := by rw [w64_eq, w64_eq, w64_eq]; omega
@[simp] theorem w64_sub_right (x y : Int) : IntKind.i64.wrap (x - IntKind.i64.wrap y) = IntKind.i64.wrap (x - y) := by rw [w64_eq, w64_eq, w64_eq]; omega
@[simp] theorem w64_w64 (x : Int) : IntKind.i64.wrap (IntKind.i64.wrap x) = IntKind.i64.wrap x := by rw [w64_eq, w64_eq]; omega
theorem w64_mul_left (x y : Int) : IntKind.i64.wrap (IntKind.i64.wrap x * y) = IntKind.i64.wrap (x * y) := by
  rw [w64_eq (IntKind.i64.wrap x * y), w64_eq (x * y), w64_eq x]
  have h : ((x + 9223372036854775808) % 18446744073709551616 - 9223372036854775808) = x - 18446744073709551616 * ((x + 9223372036854775808) / 18446744073709551616) := by omega
  rw [h, Int.sub_mul, Int.mul_assoc, show x * y - 18446744073709551616 * ((x + 9223372036854775808) / 18446744073709551616 * y) + 9223372036854775808 = x * y + 9223372036854775808 + 18446744073709551616 * (-((x + 9223372036854775808) / 18446744073709551616 * y)) by omega, Int.add_mul_emod_self_left]
theorem w64_mul_right (x y : Int) : IntKind.i64.wrap (x * IntKind.i64.wrap y) = IntKind.i64.wrap (x * y) := by rw [Int.mul_comm, w64_mul_left, Int.mul_comm]

/-! ### Memory -/
@[simp] theorem rd_append_right (h l : List O) (k i : Nat) : rd (h ++ l) (h.length + k) i = rd l k i := by simp [rd, List.getElem?_append_right]
@[simp] theorem rd_append_right0 (h l : List O) (i : Nat) : rd (h ++ l) h.length i = rd l 0 i := by simp [rd, List.getElem?_append_right]
@[simp] theorem rdN_append_right (h l : List O) (k i n : Nat) : rdN (h ++ l) (h.length + k) i n = rdN l k i n := by simp [rdN, List.getElem?_append_right]
@[simp] theorem rdN_append_right0 (h l : List O) (i n : Nat) : rdN (h ++ l) h.length i n = rdN l 0 i n := by simp [rdN, List.getElem?_append_right]
@[simp] theorem rd_cells (c : List Value) (el : TypeId) (own : Option Nat) (l : List O) (i : Nat) : rd (.cells c el own :: l) 0 i = c[i]? := rfl
@[simp] theorem rd_succ (o : O) (l : List O) (k i : Nat) : rd (o :: l) (k + 1) i = rd l k i := by simp [rd]
@[simp] theorem rdN_cells (c : List Value) (el : TypeId) (own : Option Nat) (l : List O) (i n : Nat) : rdN (.cells c el own :: l) 0 i n = if i + n ≤ c.length then some ((c.drop i).take n) else none := rfl
@[simp] theorem rdN_succ (o : O) (l : List O) (k i n : Nat) : rdN (o :: l) (k + 1) i n = rdN l k i n := by simp [rdN]
theorem rd_lt {h : List O} {b i : Nat} {v : Value} (hr : rd h b i = some v) : b < h.length := by
  unfold rd at hr
  split at hr
  · rename_i c _ _ hb; exact (List.getElem?_eq_some_iff.1 hb).1
  · cases hr
theorem rd_append {h : List O} {b i : Nat} {v : Value} (hr : rd h b i = some v) (l : List O) : rd (h ++ l) b i = some v := by
  have := rd_lt hr
  unfold rd at hr ⊢
  rw [List.getElem?_append_left this]; exact hr
theorem rdN_lt {h : List O} {b i n : Nat} {v : List Value} (hr : rdN h b i n = some v) : b < h.length := by
  unfold rdN at hr
  split at hr
  · rename_i c _ _ hb; exact (List.getElem?_eq_some_iff.1 hb).1
  · cases hr
theorem rdN_append {h : List O} {b i n : Nat} {v : List Value} (hr : rdN h b i n = some v) (l : List O) : rdN (h ++ l) b i n = some v := by
  have := rdN_lt hr
  unfold rdN at hr ⊢
  rw [List.getElem?_append_left this]; exact hr

/-! ### Lists of numbers -/
def nth (xs : List Int) (i : Nat) : Int := xs.getD i 0
theorem nth_eq {xs : List Int} {i : Nat} (hi : i < xs.length) : nth xs i = xs[i] := by simp [nth, hi]
theorem nth_ge {xs : List Int} {i : Nat} (hi : xs.length ≤ i) : nth xs i = 0 := by simp [nth, hi]
theorem nth_mem {xs : List Int} {i : Nat} (hi : i < xs.length) : nth xs i ∈ xs := by rw [nth_eq hi]; exact List.getElem_mem hi
def nthR (A : List (List Int)) (i : Nat) : List Int := A.getD i []
theorem nthR_eq {A : List (List Int)} {i : Nat} (hi : i < A.length) : nthR A i = A[i] := by simp [nthR, hi]
theorem nthR_mem {A : List (List Int)} {i : Nat} (hi : i < A.length) : nthR A i ∈ A := by rw [nthR_eq hi]; exact List.getElem_mem hi
def sumN (f : Nat → Int) : Nat → Int
  | 0 => 0
  | n + 1 => sumN f n + f n
theorem sumN_congr {f g : Nat → Int} {n : Nat} (h : ∀ i, i < n → f i = g i) : sumN f n = sumN g n := by
  induction n with
  | zero => rfl
  | succ n ih => simp only [sumN]; rw [ih fun i hi => h i (by omega), h n (by omega)]

/-- A slice of numbers. -/
def Ints (h : List O) (v : Value) (xs : List Int) : Prop :=
  ∃ a b o c, v = .slice a xs.length c ∧ (0 < xs.length → a = some ⟨b, o, none⟩) ∧ (∀ i, i < xs.length → rd h b (o + i) = some (.int .i64 (nth xs i))) ∧ (∀ i, I64 (nth xs i)) ∧ xs.length < 2 ^ 62
/-- A slice of slices of numbers. -/
def Mat (h : List O) (v : Value) (A : List (List Int)) : Prop :=
  ∃ a b o c, ∃ vs : Nat → Value, v = .slice a A.length c ∧ (0 < A.length → a = some ⟨b, o, none⟩) ∧ (∀ i, i < A.length → rd h b (o + i) = some (vs i) ∧ Ints h (vs i) (nthR A i)) ∧ A.length < 2 ^ 62
theorem Ints.mono {h : List O} {v : Value} {xs : List Int} (hc : Ints h v xs) (l : List O) : Ints (h ++ l) v xs := by
  obtain ⟨a, b, o, c, h1, h2, h3, h4⟩ := hc
  exact ⟨a, b, o, c, h1, h2, fun i hi => rd_append (h3 i hi) l, h4⟩
theorem Mat.mono {h : List O} {v : Value} {A : List (List Int)} (hc : Mat h v A) (l : List O) : Mat (h ++ l) v A := by
  obtain ⟨a, b, o, c, vs, h1, h2, h3, h4⟩ := hc
  exact ⟨a, b, o, c, vs, h1, h2, fun i hi => ⟨rd_append (h3 i hi).1 l, (h3 i hi).2.mono l⟩, h4⟩
theorem Ints.nil {h : List O} : Ints h (.slice none 0 0) [] := ⟨none, 0, 0, 0, rfl, fun h => absurd h (by simp), fun i hi => absurd hi (by simp), fun i => by simp [nth, I64], by simp⟩

@[simp] theorem resV_tmp2 {fr : Fr} {h : List O} {t u : Nat} : resV fr h [.tmp t, .tmp u] = some (.tuple #[get fr t, get fr u]) := rfl
@[simp] theorem resV_tmp3 {fr : Fr} {h : List O} {t u v : Nat} : resV fr h [.tmp t, .tmp u, .tmp v] = some (.tuple #[get fr t, get fr u, get fr v]) := rfl
@[simp] theorem resV_nil {fr : Fr} {h : List O} : resV fr h [] = some (.tuple #[]) := rfl
@[simp] theorem resV_one {fr : Fr} {h : List O} {r : RRes} : resV fr h [r] = resOne fr h r := by
  simp only [resV, resAll]
  cases resOne fr h r <;> rfl
attribute [simp] resOne
@[simp] theorem back_int {h h' : List O} {k : IntKind} {n : Int} : back ⟨h, h.length⟩ (.ret (.int k n)) ⟨h', h.length⟩ = (.ret (.int k n), ⟨h, h.length⟩) := by
  simp [back, Out.scalar, scalar, flat1, flat]
@[simp] theorem back_bool {h h' : List O} {b : Bool} : back ⟨h, h.length⟩ (.ret (.bool b)) ⟨h', h.length⟩ = (.ret (.bool b), ⟨h, h.length⟩) := by
  simp [back, Out.scalar, scalar, flat1, flat]
@[simp] theorem joined_self (st : St) : joined st ⟨st.h, st.h.length⟩ = st := by simp [joined]
theorem back_scalar {h : List O} {st' : St} {out : Out} (hs : out.scalar = true) (hfl : h.length ≤ st'.fl) : back ⟨h, h.length⟩ out st' = (out, ⟨h, h.length⟩) := by
  simp [back, hs, hfl]


/-! ### Regions that draw their order -/
/-- It writes nothing that was there, and calls nothing. -/
def quietOp : ROp → Bool
  | .call _ _ | .store _ _ _ | .mapUpd _ _ _ _ _ | .mapEntry _ _ _ _ _ | .entryStore _ _ _ | .delete _ _ _ _ | .next _ | .append _ _ _ _ _ | .appendZ _ _ _ _ _ _ | .copy _ _ _ => false
  | _ => true
@[simp] theorem quietOp_mv {a} : quietOp (.mv a) = true := rfl
@[simp] theorem quietOp_pick {a b c} : quietOp (.pick a b c) = true := rfl
@[simp] theorem quietOp_new {a b} : quietOp (.new a b) = true := rfl
@[simp] theorem quietOp_box {a b} : quietOp (.box a b) = true := rfl
@[simp] theorem quietOp_build {a b} : quietOp (.build a b) = true := rfl
@[simp] theorem quietOp_buildSlice {a b c d} : quietOp (.buildSlice a b c d) = true := rfl
@[simp] theorem quietOp_load {a b} : quietOp (.load a b) = true := rfl
@[simp] theorem quietOp_store {a b c} : quietOp (.store a b c) = false := rfl
@[simp] theorem quietOp_nilchk {a} : quietOp (.nilchk a) = true := rfl
@[simp] theorem quietOp_bin {a b c} : quietOp (.bin a b c) = true := rfl
@[simp] theorem quietOp_binB {a b c} : quietOp (.binB a b c) = true := rfl
@[simp] theorem quietOp_eqNil {a b c} : quietOp (.eqNil a b c) = true := rfl
@[simp] theorem quietOp_eqAgg {a b c d} : quietOp (.eqAgg a b c d) = true := rfl
@[simp] theorem quietOp_un {a b} : quietOp (.un a b) = true := rfl
@[simp] theorem quietOp_conv {a b} : quietOp (.conv a b) = true := rfl
@[simp] theorem quietOp_mkIface {a b} : quietOp (.mkIface a b) = true := rfl
@[simp] theorem quietOp_mkf {a b} : quietOp (.mkf a b) = true := rfl
@[simp] theorem quietOp_mkMap : quietOp (.mkMap) = true := rfl
@[simp] theorem quietOp_mkSlice {a b c d f'} : quietOp (.mkSlice a b c d f') = true := rfl
@[simp] theorem quietOp_slice {a b c d f'} : quietOp (.slice a b c d f') = true := rfl
@[simp] theorem quietOp_faddr {a b} : quietOp (.faddr a b) = true := rfl
@[simp] theorem quietOp_field {a b c} : quietOp (.field a b c) = true := rfl
@[simp] theorem quietOp_iaddrS {a b c} : quietOp (.iaddrS a b c) = true := rfl
@[simp] theorem quietOp_iaddrA {a b c d} : quietOp (.iaddrA a b c d) = true := rfl
@[simp] theorem quietOp_indexA {a b c d f'} : quietOp (.indexA a b c d f') = true := rfl
@[simp] theorem quietOp_lookup {a b c d f' g} : quietOp (.lookup a b c d f' g) = true := rfl
@[simp] theorem quietOp_mapUpd {a b c d f'} : quietOp (.mapUpd a b c d f') = false := rfl
@[simp] theorem quietOp_mapEntry {a b c d f'} : quietOp (.mapEntry a b c d f') = false := rfl
@[simp] theorem quietOp_entryStore {a b c} : quietOp (.entryStore a b c) = false := rfl
@[simp] theorem quietOp_delete {a b c d} : quietOp (.delete a b c d) = false := rfl
@[simp] theorem quietOp_range {a} : quietOp (.range a) = true := rfl
@[simp] theorem quietOp_next {a} : quietOp (.next a) = false := rfl
@[simp] theorem quietOp_entry {a} : quietOp (.entry a) = true := rfl
@[simp] theorem quietOp_assert {a b c} : quietOp (.assert a b c) = true := rfl
@[simp] theorem quietOp_extract {a b} : quietOp (.extract a b) = true := rfl
@[simp] theorem quietOp_len {a b} : quietOp (.len a b) = true := rfl
@[simp] theorem quietOp_append {a b c d f'} : quietOp (.append a b c d f') = false := rfl
@[simp] theorem quietOp_appendZ {a b c d f' g} : quietOp (.appendZ a b c d f' g) = false := rfl
@[simp] theorem quietOp_copy {a b c} : quietOp (.copy a b c) = false := rfl
@[simp] theorem quietOp_maxmin {a b} : quietOp (.maxmin a b) = true := rfl
@[simp] theorem quietOp_panic {a} : quietOp (.panic a) = true := rfl
@[simp] theorem quietOp_call {a b} : quietOp (.call a b) = false := rfl
@[simp] theorem fpOf_mv {a} {e : Operand → Value} {st : St} : fpOf (.mv a) e st = {} := rfl
@[simp] theorem fpOf_pick {a b c} {e : Operand → Value} {st : St} : fpOf (.pick a b c) e st = {} := rfl
@[simp] theorem fpOf_new {a b} {e : Operand → Value} {st : St} : fpOf (.new a b) e st = {} := rfl
@[simp] theorem fpOf_box {a b} {e : Operand → Value} {st : St} : fpOf (.box a b) e st = {} := rfl
@[simp] theorem fpOf_build {a b} {e : Operand → Value} {st : St} : fpOf (.build a b) e st = {} := rfl
@[simp] theorem fpOf_buildSlice {a b c d} {e : Operand → Value} {st : St} : fpOf (.buildSlice a b c d) e st = {} := rfl
@[simp] theorem fpOf_load {a b} {e : Operand → Value} {st : St} : fpOf (.load a b) e st = { r := blk (e b) } := rfl
@[simp] theorem fpOf_store {a b c} {e : Operand → Value} {st : St} : fpOf (.store a b c) e st = { w := blk (e b) } := rfl
@[simp] theorem fpOf_nilchk {a} {e : Operand → Value} {st : St} : fpOf (.nilchk a) e st = {} := rfl
@[simp] theorem fpOf_bin {a b c} {e : Operand → Value} {st : St} : fpOf (.bin a b c) e st = {} := rfl
@[simp] theorem fpOf_binB {a b c} {e : Operand → Value} {st : St} : fpOf (.binB a b c) e st = {} := rfl
@[simp] theorem fpOf_eqNil {a b c} {e : Operand → Value} {st : St} : fpOf (.eqNil a b c) e st = {} := rfl
@[simp] theorem fpOf_eqAgg {a b c d} {e : Operand → Value} {st : St} : fpOf (.eqAgg a b c d) e st = {} := rfl
@[simp] theorem fpOf_un {a b} {e : Operand → Value} {st : St} : fpOf (.un a b) e st = {} := rfl
@[simp] theorem fpOf_conv {a b} {e : Operand → Value} {st : St} : fpOf (.conv a b) e st = {} := rfl
@[simp] theorem fpOf_mkIface {a b} {e : Operand → Value} {st : St} : fpOf (.mkIface a b) e st = {} := rfl
@[simp] theorem fpOf_mkf {a b} {e : Operand → Value} {st : St} : fpOf (.mkf a b) e st = {} := rfl
@[simp] theorem fpOf_mkMap {e : Operand → Value} {st : St} : fpOf (.mkMap) e st = {} := rfl
@[simp] theorem fpOf_mkSlice {a b c d f'} {e : Operand → Value} {st : St} : fpOf (.mkSlice a b c d f') e st = {} := rfl
@[simp] theorem fpOf_slice {a b c d f'} {e : Operand → Value} {st : St} : fpOf (.slice a b c d f') e st = { r := blk (e b) } := rfl
@[simp] theorem fpOf_faddr {a b} {e : Operand → Value} {st : St} : fpOf (.faddr a b) e st = {} := rfl
@[simp] theorem fpOf_field {a b c} {e : Operand → Value} {st : St} : fpOf (.field a b c) e st = {} := rfl
@[simp] theorem fpOf_iaddrS {a b c} {e : Operand → Value} {st : St} : fpOf (.iaddrS a b c) e st = {} := rfl
@[simp] theorem fpOf_iaddrA {a b c d} {e : Operand → Value} {st : St} : fpOf (.iaddrA a b c d) e st = {} := rfl
@[simp] theorem fpOf_indexA {a b c d f'} {e : Operand → Value} {st : St} : fpOf (.indexA a b c d f') e st = {} := rfl
@[simp] theorem fpOf_lookup {a b c d f' g} {e : Operand → Value} {st : St} : fpOf (.lookup a b c d f' g) e st = { r := blk (e d) } := rfl
@[simp] theorem fpOf_mapUpd {a b c d f'} {e : Operand → Value} {st : St} : fpOf (.mapUpd a b c d f') e st = { w := blk (e c) } := rfl
@[simp] theorem fpOf_mapEntry {a b c d f'} {e : Operand → Value} {st : St} : fpOf (.mapEntry a b c d f') e st = { w := blk (e d) } := rfl
@[simp] theorem fpOf_entryStore {a b c} {e : Operand → Value} {st : St} : fpOf (.entryStore a b c) e st = { w := blk (e a) } := rfl
@[simp] theorem fpOf_delete {a b c d} {e : Operand → Value} {st : St} : fpOf (.delete a b c d) e st = { w := blk (e c) } := rfl
@[simp] theorem fpOf_range {a} {e : Operand → Value} {st : St} : fpOf (.range a) e st = { r := blk (e a) } := rfl
@[simp] theorem fpOf_next {a} {e : Operand → Value} {st : St} : fpOf (.next a) e st = { r := iterMap st.h (blk (e a)), w := blk (e a) } := rfl
@[simp] theorem fpOf_entry {a} {e : Operand → Value} {st : St} : fpOf (.entry a) e st = { r := iterMap st.h (blk (e a)) } := rfl
@[simp] theorem fpOf_assert {a b c} {e : Operand → Value} {st : St} : fpOf (.assert a b c) e st = {} := rfl
@[simp] theorem fpOf_extract {a b} {e : Operand → Value} {st : St} : fpOf (.extract a b) e st = {} := rfl
@[simp] theorem fpOf_len {a b} {e : Operand → Value} {st : St} : fpOf (.len a b) e st = { r := blk (e b) } := rfl
@[simp] theorem fpOf_append {a b c d f'} {e : Operand → Value} {st : St} : fpOf (.append a b c d f') e st = { r := blk (e f'), w := blk (e d) } := rfl
@[simp] theorem fpOf_appendZ {a b c d f' g} {e : Operand → Value} {st : St} : fpOf (.appendZ a b c d f' g) e st = { w := blk (e f') } := rfl
@[simp] theorem fpOf_copy {a b c} {e : Operand → Value} {st : St} : fpOf (.copy a b c) e st = { r := blk (e c), w := blk (e b) } := rfl
@[simp] theorem fpOf_maxmin {a b} {e : Operand → Value} {st : St} : fpOf (.maxmin a b) e st = {} := rfl
@[simp] theorem fpOf_panic {a} {e : Operand → Value} {st : St} : fpOf (.panic a) e st = {} := rfl
theorem fpOf_quiet {op : ROp} (h : quietOp op = true) (e : Operand → Value) (st : St) : (fpOf op e st).w = [] ∧ (fpOf op e st).all = false ∧ (fpOf op e st).bad = false := by
  cases op <;> first | exact ⟨rfl, rfl, rfl⟩ | (simp [quietOp] at h)
def quietAcc (acc : List (Nat × FP)) : Prop := ∀ q ∈ acc, q.2.w = [] ∧ q.2.all = false ∧ q.2.bad = false
theorem clashes_quiet {acc : List (Nat × FP)} (ha : quietAcc acc) {fp : FP} (h : fp.w = [] ∧ fp.all = false ∧ fp.bad = false) (anc : Nat) : clashes acc anc fp = false := by
  unfold clashes
  rw [List.any_eq_false]
  intro q hq
  obtain ⟨h1, h2, h3⟩ := ha q hq
  obtain ⟨h4, h5, h6⟩ := h
  simp [FP.clash, FP.hits, h1, h2, h3, h4, h5, h6]
def normK (Q : Post) : Post
  | .normal, fr, st => Q .normal fr st
  | _, _, _ => False
@[simp] theorem normK_normal {Q : Post} {fr st} : normK Q .normal fr st ↔ Q .normal fr st := Iff.rfl
@[simp] theorem normK_pan {Q : Post} {fr st v} : normK Q (.pan v) fr st ↔ False := Iff.rfl
def quietL : List ROper → Bool
  | [] => true
  | o :: os => quietOp o.op && quietL os
@[simp] theorem quietL_nil : quietL [] = true := rfl
@[simp] theorem quietL_cons {dst g op anc os} : quietL (⟨dst, g, op, anc⟩ :: os) = (quietOp op && quietL os) := rfl
theorem quietOp_isCall {op : ROp} (h : quietOp op = true) : isCall op = false := by cases op <;> first | rfl | simp [quietOp] at h
theorem DD_quiet : ∀ {l : List ROper} {i : Nat} {acc : List (Nat × FP)} {fr : Fr} {st : St} {Q : Post}, quietL l = true → quietAcc acc → (DD E i acc l fr st Q ↔ DL E l fr st (normK Q)) := by
  intro l
  induction l with
  | nil => intro i acc fr st Q _ _; simp
  | cons o os ih =>
    intro i acc fr st Q hq ha
    obtain ⟨dst, g, op, anc⟩ := o
    simp only [quietL_cons, Bool.and_eq_true] at hq
    have hc := quietOp_isCall hq.1
    have key : DD E i acc (⟨dst, none, op, anc⟩ :: os) fr st Q ↔ DL E (⟨dst, none, op, anc⟩ :: os) fr st (normK Q) := by
      rw [DD_step' hc, DL_step' hc]
      unfold stepW
      constructor
      · rintro ⟨r, st', h, hr⟩
        cases r with
        | val v => obtain ⟨_, h2⟩ := hr; exact ⟨_, _, h, (ih hq.2 (fun q hqm => by
            rcases List.mem_cons.1 hqm with rfl | hm
            · exact fpOf_quiet hq.1 _ _
            · exact ha q hm)).1 h2⟩
        | pan v => exact hr.elim
      · rintro ⟨r, st', h, hr⟩
        cases r with
        | val v => exact ⟨_, _, h, clashes_quiet ha (fp := { fpOf op (ev fr) st with al := st'.h.length != st.h.length }) (fpOf_quiet hq.1 (ev fr) st) anc, (ih hq.2 (fun q hqm => by
            rcases List.mem_cons.1 hqm with rfl | hm
            · exact fpOf_quiet hq.1 _ _
            · exact ha q hm)).2 hr⟩
        | pan v => exact hr.elim
    cases g with
    | none => exact key
    | some g =>
      obtain ⟨s, w⟩ := g
      rw [DD_guard, DL_guard, key, ih hq.2 ha]
def drawK (E : Env) (l : List ROper) (fr : Fr) (st : St) (Q : Post) (b : Bool) : Prop := if b = true then DL E l fr st (normK Q) else DD E 0 [] l fr st Q
@[simp] theorem drawK_true {l : List ROper} {fr st} {Q : Post} : drawK E l fr st Q true ↔ DL E l fr st (normK Q) := Iff.rfl
@[simp] theorem drawK_false {l : List ROper} {fr st} {Q : Post} : drawK E l fr st Q false ↔ DD E 0 [] l fr st Q := by simp [drawK]
theorem DW_opsQ {l : List ROper} {fr st} {Q : Post} : DW E (.ops true l) fr st Q ↔ drawK E l fr st Q (quietL l) := by
  rw [DW_opsD]
  unfold drawK
  split
  · rename_i h; exact DD_quiet h (fun q hq => by simp at hq)
  · exact Iff.rfl
attribute [simp] DW_opsQ
@[simp] theorem clashes_nil {anc : Nat} {fp : FP} : clashes [] anc fp = false := rfl
@[simp] theorem clashes_cons {j : Nat} {fp' : FP} {acc : List (Nat × FP)} {anc : Nat} {fp : FP} : clashes ((j, fp') :: acc) anc fp = (!anc.testBit j && fp'.clash fp || clashes acc anc fp) := rfl
@[simp] theorem clash_mk {a b r w l a' b' r' w' l'} : FP.clash ⟨a, b, r, w, l⟩ ⟨a', b', r', w', l'⟩ =
    ((b && (a' || b' || !r'.isEmpty || !w'.isEmpty) || a && !w'.isEmpty || b && l' || w.any fun k => r'.contains k || w'.contains k) ||
     (b' && (a || b || !r.isEmpty || !w.isEmpty) || a' && !w.isEmpty || b' && l || w'.any fun k => r.contains k || w.contains k)) := rfl
@[simp] theorem blk_ptr {b i : Nat} : blk (.pointer (some ⟨b, i, none⟩)) = [b] := rfl
@[simp] theorem blk_slice {b i n c : Nat} : blk (.slice (some ⟨b, i, none⟩) n c) = [b] := rfl
@[simp] theorem blk_slice0 {n c : Nat} : blk (.slice none n c) = [] := rfl
@[simp] theorem blk_map {b : Nat} : blk (.map (some b)) = [b] := rfl


/-! ### Memory that grows -/
def Ext (h h' : List O) : Prop := ∃ l, h' = h ++ l
theorem Ext.refl (h : List O) : Ext h h := ⟨[], by simp⟩
theorem Ext.snoc (h : List O) (l : List O) : Ext h (h ++ l) := ⟨l, rfl⟩
theorem Ext.trans {a b c : List O} (h : Ext a b) (k : Ext b c) : Ext a c := by
  obtain ⟨l, rfl⟩ := h; obtain ⟨m, rfl⟩ := k; exact ⟨l ++ m, by simp⟩
theorem Ext.len {h h' : List O} (k : Ext h h') : h.length ≤ h'.length := by obtain ⟨l, rfl⟩ := k; simp
theorem Ext.rd {h h' : List O} (k : Ext h h') {b i : Nat} {v : Value} (hr : Ai.rd h b i = some v) : Ai.rd h' b i = some v := by obtain ⟨l, rfl⟩ := k; exact rd_append hr l
theorem Ext.rdN {h h' : List O} (k : Ext h h') {b i n : Nat} {v : List Value} (hr : Ai.rdN h b i n = some v) : Ai.rdN h' b i n = some v := by obtain ⟨l, rfl⟩ := k; exact rdN_append hr l
theorem Ints.ext {h h' : List O} {v : Value} {xs : List Int} (hc : Ints h v xs) (k : Ext h h') : Ints h' v xs := by obtain ⟨l, rfl⟩ := k; exact hc.mono l
theorem Mat.ext {h h' : List O} {v : Value} {A : List (List Int)} (hc : Mat h v A) (k : Ext h h') : Mat h' v A := by obtain ⟨l, rfl⟩ := k; exact hc.mono l

/-- A variable in memory of its own. -/
structure Boxed (h : List O) (p : Nat) (cs : List Value) : Prop where
  lt : p < h.length
  rd : ∀ i, Ai.rd h p i = cs[i]?
  rdN : ∀ i n, Ai.rdN h p i n = if i + n ≤ cs.length then some ((cs.drop i).take n) else none
theorem Boxed.snoc (h : List O) (cs : List Value) (el : TypeId) (own : Option Nat) : Boxed (h ++ [.cells cs el own]) h.length cs := ⟨by simp, fun i => by simp, fun i n => by simp⟩
theorem Boxed.ext {h h' : List O} {p : Nat} {cs : List Value} (hb : Boxed h p cs) (k : Ext h h') : Boxed h' p cs := by
  obtain ⟨l, rfl⟩ := k
  have e : (h ++ l)[p]? = h[p]? := List.getElem?_append_left hb.lt
  exact ⟨by have := hb.lt; simp; omega, fun i => by rw [← hb.rd i]; simp only [Ai.rd, e], fun i n => by rw [← hb.rdN i n]; simp only [Ai.rdN, e]⟩
theorem DL_boxed {d : Nat} {el : TypeId} {x : Operand} {anc : Nat} {os : List ROper} {fr : Fr} {h : List O} {f : Nat} {Q : Post} (hk : ∀ h' p, Ext h h' → h'.length = h.length + 1 → h.length ≤ p → Boxed h' p (ev fr x).cells.toList → DL E os (put fr d (.pointer (some ⟨p, 0, none⟩))) ⟨h', f⟩ Q) :
    DL E (⟨some d, none, .box el x, anc⟩ :: os) fr ⟨h, f⟩ Q := by
  simp only [DL_box, step_box, resQ_some, stepK_val, putD_some]
  exact hk _ _ (Ext.snoc h _) (by simp) (Nat.le_refl _) (Boxed.snoc h _ el _)
theorem DL_newed {d : Nat} {el : TypeId} {z : List Value} {anc : Nat} {os : List ROper} {fr : Fr} {h : List O} {f : Nat} {Q : Post} (hk : ∀ h' p, Ext h h' → h'.length = h.length + 1 → h.length ≤ p → Boxed h' p z → DL E os (put fr d (.pointer (some ⟨p, 0, none⟩))) ⟨h', f⟩ Q) :
    DL E (⟨some d, none, .new el z, anc⟩ :: os) fr ⟨h, f⟩ Q := by
  simp only [DL_new, step_new, resQ_some, stepK_val, putD_some]
  exact hk _ _ (Ext.snoc h _) (by simp) (Nat.le_refl _) (Boxed.snoc h _ el _)
@[simp] theorem joined_mk (h : List O) (f : Nat) : joined ⟨h, f⟩ ⟨h, h.length⟩ = ⟨h, f⟩ := by simp [joined]

/-! ### The first index -/
def firstI (p : Nat → Bool) (n : Nat) : Int := match (List.range n).find? p with
  | some i => i
  | none => -1
theorem firstI_found {p : Nat → Bool} {n i : Nat} (hi : i < n) (hp : p i = true) (hj : ∀ j, j < i → p j = false) : firstI p n = i := by
  have : (List.range n).find? p = some i := by
    rw [List.find?_range_eq_some]
    exact ⟨hp, by simpa using hi, fun j hj' => by simp [hj j hj']⟩
  simp [firstI, this]
theorem firstI_none {p : Nat → Bool} {n : Nat} (h : ∀ j, j < n → p j = false) : firstI p n = -1 := by
  have : (List.range n).find? p = none := by
    rw [List.find?_eq_none]
    intro x hx
    have := h x (by simpa using hx)
    simp [this]
  simp [firstI, this]
theorem firstI_cases (p : Nat → Bool) (n : Nat) : (∃ i, i < n ∧ p i = true ∧ (∀ j, j < i → p j = false) ∧ firstI p n = i) ∨ ((∀ j, j < n → p j = false) ∧ firstI p n = -1) := by
  cases h : (List.range n).find? p with
  | none =>
    right
    refine ⟨fun j hj => ?_, by simp [firstI, h]⟩
    have := List.find?_eq_none.1 h j (by simpa using hj)
    simpa using this
  | some i =>
    left
    obtain ⟨h1, h2, h3⟩ := List.find?_range_eq_some.1 h
    exact ⟨i, by simpa using h2, h1, fun j hj => by simpa using h3 j hj, by simp [firstI, h]⟩

end Go.Ai
namespace Go.Ai
set_option linter.unusedSimpArgs false
set_option linter.unusedVariables false

theorem Ext.set {h0 h : List O} (k : Ext h0 h) {b : Nat} (hb : h0.length ≤ b) (o : O) : Ext h0 (h.set b o) := by
  obtain ⟨l, rfl⟩ := k
  exact ⟨l.set (b - h0.length) o, by rw [List.set_append_right _ _ hb]⟩

/-- A slice of one's own that is as long as its room: k elements. -/
def OwnS (h : List O) (lo : Nat) (v : Value) (k : Nat) (cs : List Value) (el : TypeId) (size : Nat) : Prop :=
  cs.length = k * size ∧ ((v = .slice none 0 0 ∧ k = 0) ∨ ∃ b s, v = .slice (some ⟨b, 0, none⟩) k k ∧ lo ≤ b ∧ h[b]? = some (.cells cs el (some s)) ∧ (s = 0 ∨ s = size))
theorem OwnS.nil (h : List O) (lo : Nat) (el : TypeId) (size : Nat) : OwnS h lo (.slice none 0 0) 0 [] el size := ⟨by simp, .inl ⟨rfl, rfl⟩⟩
theorem OwnS.ext {h h' : List O} {lo k : Nat} {v : Value} {cs : List Value} {el : TypeId} {size : Nat} (ho : OwnS h lo v k cs el size) (e : Ext h h') : OwnS h' lo v k cs el size := by
  refine ⟨ho.1, ?_⟩
  rcases ho.2 with h1 | ⟨b, s, h1, h2, h3, h4⟩
  · exact .inl h1
  · obtain ⟨l, rfl⟩ := e
    exact .inr ⟨b, s, h1, h2, by rw [List.getElem?_append_left (List.getElem?_eq_some_iff.1 h3).1]; exact h3, h4⟩
theorem append_own {h0 H : List O} {lo k n fl c : Nat} {v : Value} {cs new : List Value} {el : TypeId} {size bytes : Nat} {xb : Option Addr}
    (ho : OwnS H lo v k cs el size) (hx : readSlice H size n xb = some new) (hnew : new.length = n * size) (hone : new.all one1 = true) (he : Ext h0 H) (hlo : h0.length = lo) (hfl : fl ≤ lo) (hroom : (k + n) * bytes ≤ roomMax) (hn : 0 < n) :
    ∃ v' H', appendV el size bytes v (.slice xb n c) ⟨H, fl⟩ = some (v', ⟨H', fl⟩) ∧ OwnS H' lo v' (k + n) (cs ++ new) el size ∧ Ext h0 H' := by
  obtain ⟨hl, hv⟩ := ho
  rcases hv with ⟨rfl, rfl⟩ | ⟨b, s, rfl, hb, hcell, hs⟩
  · refine ⟨.slice (some ⟨H.length, 0, none⟩) (0 + n) (0 + n), H ++ [.cells ([] ++ new) el (some size)], ?_, ⟨?_, .inr ⟨H.length, size, rfl, ?_, ?_, .inr rfl⟩⟩, he.trans (Ext.snoc _ _)⟩
    · simp only [appendV, hx, bind, Option.bind_some, appendCells]
      rw [if_neg (by omega), if_neg (by omega), if_pos ⟨hroom, hone⟩]
      simp [readSlice, kill]
    · simp [hl, hnew, Nat.add_mul]
    · rw [← hlo]; exact he.len
    · have : cs = [] := by
        have : cs.length = 0 := by simp [hl]
        exact List.length_eq_zero_iff.1 this
      simp [this]
  · have hread : readSlice H size k (some ⟨b, 0, none⟩) = some cs := by
      simp only [readSlice]
      split
      · rename_i h0'
        have : cs = [] := List.length_eq_zero_iff.1 (by omega)
        rw [this]
      · simp [rdN, hcell, hl]
        exact List.take_of_length_le (by omega)
    refine ⟨.slice (some ⟨H.length, 0, none⟩) (k + n) (k + n), (H.set b .dead) ++ [.cells (cs ++ new) el (some size)], ?_, ⟨?_, .inr ⟨H.length, size, rfl, ?_, ?_, .inr rfl⟩⟩, (he.set (by omega) _).trans (Ext.snoc _ _)⟩
    · simp only [appendV, hx, bind, Option.bind_some, appendCells]
      rw [if_neg (by omega), if_neg (by omega), if_pos ⟨hroom, hone⟩, hread]
      simp only [kill, hcell, Option.bind_some]
      rw [if_pos ⟨hs, by simp⟩]
      simp only [Option.bind_some, List.length_set]
      rw [show min fl b = fl by omega]
    · simp [hl, hnew, Nat.add_mul]
    · rw [← hlo]; exact he.len
    · simp
theorem OwnS.ints {h : List O} {lo k : Nat} {v : Value} {xs : List Int} {el : TypeId} (ho : OwnS h lo v k (xs.map (.int .i64)) el 1) (hx : ∀ i, I64 (nth xs i)) (hk : k < 2 ^ 62) : Ints h v xs := by
  obtain ⟨h1, h2⟩ := ho
  have hlen : xs.length = k := by simpa using h1
  rcases h2 with ⟨rfl, rfl⟩ | ⟨b, s, rfl, h3, h4, h5⟩
  · have : xs = [] := List.length_eq_zero_iff.1 hlen
    subst this
    exact Ints.nil
  · refine ⟨some ⟨b, 0, none⟩, b, 0, k, by rw [hlen], fun _ => rfl, fun i hi => ?_, hx, by omega⟩
    simp [rd, h4, hi, nth]

@[simp] theorem wrN_snoc (h : List O) (c : List Value) (el : TypeId) (s i : Nat) (vs : List Value) :
    wrN (h ++ [.cells c el (some s)]) h.length i vs = if i + vs.length ≤ c.length ∧ vs.all one1 = true then some (h ++ [.cells (setL c i vs) el (some s)]) else none := by
  simp [wrN]
@[simp] theorem one1_int {k n} : one1 (.int k n) = true := rfl
@[simp] theorem one1_bool {b} : one1 (.bool b) = true := rfl
@[simp] theorem one1_slice {a n c} : one1 (.slice a n c) = true := rfl
@[simp] theorem one1_ptr {a} : one1 (.pointer a) = true := rfl
@[simp] theorem one1_map {a} : one1 (.map a) = true := rfl
@[simp] theorem setL_nil {c : List Value} {i : Nat} : setL c i [] = c := rfl
@[simp] theorem setL_cons {c : List Value} {i : Nat} {v : Value} {vs : List Value} : setL c i (v :: vs) = setL (c.set i v) (i + 1) vs := rfl
@[simp] theorem fillL_nil {c : List Value} : fillL c [] = some c := rfl
@[simp] theorem fillL_cons {c : List Value} {off size : Nat} {v : Value} {rest} : fillL c ((off, size, v) :: rest) = if v.cells.toList.length = size ∧ off + size ≤ c.length then fillL (setL c off v.cells.toList) rest else none := rfl

@[simp] theorem joined_ext (h h' : List O) (f : Nat) : joined ⟨h, f⟩ ⟨h', h.length⟩ = ⟨h', f⟩ := by simp [joined]
/-! ### A frame is forgotten but for some cells -/
theorem resQ_forget {E : Env} {x : Option (Res × St)} {d : Option Nat} {os : List ROper} {fr : Fr} {Q : Post} (P : Fr → Prop) (h : ∀ fr', P fr' → resQ x (stepK E d os fr' Q)) (hp : P fr) : resQ x (stepK E d os fr Q) := h fr hp
theorem DW_forget {E : Env} {r : R} {fr : Fr} {st : St} {Q : Post} (P : Fr → Prop) (h : ∀ fr', P fr' → DW E r fr' st Q) (hp : P fr) : DW E r fr st Q := h fr hp
theorem DL_forget {E : Env} {l : List ROper} {fr : Fr} {st : St} {Q : Post} (P : Fr → Prop) (h : ∀ fr', P fr' → DL E l fr' st Q) (hp : P fr) : DL E l fr st Q := h fr hp

/-! ### Bounds -/
theorem tdiv_cases (a d : Int) : (0 ≤ a ∧ a.tdiv d = a / d ∧ a.tmod d = a % d) ∨ (a < 0 ∧ a.tdiv d = -((-a) / d) ∧ a.tmod d = -((-a) % d)) := by
  by_cases h : 0 ≤ a
  · exact .inl ⟨h, Int.tdiv_eq_ediv_of_nonneg h, Int.tmod_eq_emod_of_nonneg h⟩
  · refine .inr ⟨by omega, ?_, ?_⟩
    · have := Int.tdiv_eq_ediv_of_nonneg (a := -a) (b := d) (by omega)
      rw [Int.neg_tdiv] at this
      omega
    · have := Int.tmod_eq_emod_of_nonneg (a := -a) (b := d) (by omega)
      rw [Int.neg_tmod] at this
      omega
theorem mul_bound {x y a b : Int} (h1 : -a ≤ x ∧ x ≤ a) (h2 : -b ≤ y ∧ y ≤ b) : -(a * b) ≤ x * y ∧ x * y ≤ a * b := by
  have e1 : x.natAbs ≤ a.natAbs := by omega
  have e2 : y.natAbs ≤ b.natAbs := by omega
  have e3 : (x * y).natAbs ≤ (a * b).natAbs := by rw [Int.natAbs_mul, Int.natAbs_mul]; exact Nat.mul_le_mul e1 e2
  have e4 : 0 ≤ a * b := Int.mul_nonneg (by omega) (by omega)
  omega
theorem sumN_bound {f : Nat → Int} {M : Int} {n : Nat} (h : ∀ i, i < n → -M ≤ f i ∧ f i ≤ M) : -(n * M) ≤ sumN f n ∧ sumN f n ≤ n * M := by
  induction n with
  | zero => simp [sumN]
  | succ n ih =>
    have h1 := ih fun i hi => h i (by omega)
    have h2 := h n (by omega)
    simp only [sumN, Int.natCast_succ, Int.add_mul, Int.one_mul]
    omega
theorem sumN_add (f g : Nat → Int) (n : Nat) : sumN (fun i => f i + g i) n = sumN f n + sumN g n := by
  induction n with
  | zero => rfl
  | succ n ih => simp only [sumN, ih]; omega
theorem sumN_mul (c : Int) (f : Nat → Int) (n : Nat) : sumN (fun i => c * f i) n = c * sumN f n := by
  induction n with
  | zero => simp [sumN]
  | succ n ih => simp only [sumN, ih, Int.mul_add]
theorem sumN_le {f g : Nat → Int} {n : Nat} (h : ∀ i, i < n → f i ≤ g i) : sumN f n ≤ sumN g n := by
  induction n with
  | zero => simp [sumN]
  | succ n ih =>
    have h1 := ih fun i hi => h i (by omega)
    have h2 := h n (by omega)
    simp only [sumN]
    omega
theorem sumN_swap (f : Nat → Nat → Int) (n m : Nat) : sumN (fun i => sumN (fun j => f i j) m) n = sumN (fun j => sumN (fun i => f i j) n) m := by
  induction n with
  | zero =>
    simp only [sumN]
    induction m with
    | zero => rfl
    | succ m ih => simp only [sumN, ← ih]; rfl
  | succ n ih => simp only [sumN, ih, sumN_add]
end Go.Ai
