/- Texts that were built one by one: AiW, AiX, AiY, Ai19, AiK, Ai20, Ai21, Ai22, Ai23. -/
import Derived.Test.YtjlkndkedknocaaMb
import Derived.RangeFuncRecord
import Derived.LoopNIn
import Derived.RangeFuncIn
set_option linter.unusedSimpArgs false
set_option linter.unusedVariables false
namespace Go.Ai
variable {E : Env}
theorem doCall_mono {c c' : CallF} (h : ∀ f a st x, c f a st = some x → c' f a st = some x) {f : Operand} {args : List Operand} {e : Operand → Value} {st : St} {x : Out × St} (hx : doCall c f args e st = some x) : doCall c' f args e st = some x := by
 unfold doCall at hx ⊢
 split at hx
 ·rename_i g vs ht; exact h _ _ _ _ hx
 ·cases hx
theorem runOps_mono {c c' : CallF} (h : ∀ f a st x, c f a st = some x → c' f a st = some x) : ∀ (l : List ROper) (fr : Fr) (st : St) x, runOps c l fr st = some x → runOps c' l fr st = some x := by
 intro l
 induction l with
 | nil => intro fr st x hx; exact hx
 | cons o os ih =>
  intro fr st x hx
  simp only [runOps] at hx ⊢
  split at hx
  ·rename_i hw
   rw [if_pos hw]
   cases hop : o.op <;> simp only [hop] at hx ⊢
   case call f args =>
    split at hx
    ·rename_i v st1 hc; rw [doCall_mono h hc]; exact ih _ _ _ hx
    ·rename_i v st1 hc; rw [doCall_mono h hc]; exact hx
    ·cases hx
   all_goals
    split at hx
    ·rename_i v st1 hs; first | exact ih _ _ _ hx | (rw [hs]; exact ih _ _ _ hx)
    ·rename_i v st1 hs; first | exact hx | (rw [hs]; exact hx)
    ·cases hx
  ·rename_i hw
   rw [if_neg hw]
   exact ih _ _ _ hx
theorem opD_mono {c c' : CallF} (h : ∀ f a st x, c f a st = some x → c' f a st = some x) {o : ROp} {e : Operand → Value} {st : St} {x : Value × St × FP} (hx : opD c o e st = some x) : opD c' o e st = some x := by
 cases o <;> simp only [opD] at hx ⊢
 case call f args =>
  split at hx
  ·cases hx
  ·rename_i hy
   rw [if_neg hy]
   split at hx
   ·rename_i v st1 hc; rw [doCall_mono h hc]; exact hx
   ·cases hx
 all_goals exact hx
theorem runOpsD_mono {c c' : CallF} (h : ∀ f a st x, c f a st = some x → c' f a st = some x) : ∀ (l : List ROper) (i : Nat) (acc : List (Nat × FP)) (fr : Fr) (st : St) x, runOpsD c i acc l fr st = some x → runOpsD c' i acc l fr st = some x := by
 intro l
 induction l with
 | nil => intro i acc fr st x hx; exact hx
 | cons o os ih =>
  intro i acc fr st x hx
  simp only [runOpsD] at hx ⊢
  split at hx
  ·rename_i hw
   rw [if_pos hw]
   split at hx
   ·rename_i v st1 fp hs
    rw [opD_mono h hs]
    simp only
    split at hx
    ·cases hx
    ·rename_i hcl
     rw [if_neg hcl]
     exact ih _ _ _ _ _ hx
   ·cases hx
  ·rename_i hw
   rw [if_neg hw]
   exact ih _ _ _ _ _ hx
theorem sig_mono {X X' : R → Fr → St → Option (Ex × Fr × St)} (ih : ∀ r fr st x, X r fr st = some x → X' r fr st = some x) : ∀ f a st x, callSig E.S (callOf E X) f a st = some x → callSig E.S (callOf E X') f a st = some x := by
 intro f a st x hx
 unfold callSig at hx ⊢
 split at hx
 ·exact hx
 ·unfold callOf at hx ⊢
  split at hx
  ·rename_i hy
   rw [if_pos hy]
   unfold callY at hx ⊢
   split at hx
   ·split at hx
    ·rename_i hl
     rw [if_pos hl]
     split at hx
     ·split at hx
      ·rename_i fr1 st1 h1
       rw [ih _ _ _ _ h1]
       split at hx
       ·rename_i st2 h2
        simp only [h2]
        split at hx
        ·rename_i fr3 st3 h3
         rw [ih _ _ _ _ h3]
         exact hx
        ·cases hx
       ·cases hx
      ·cases hx
     ·cases hx
    ·cases hx
   ·cases hx
  ·rename_i hy
   rw [if_neg hy]
   split at hx
   ·cases hx
   ·rename_i rf hrf
    try simp only
    split at hx
    ·rename_i fr1 st1 h1; rw [ih _ _ _ _ h1]; exact hx
    ·rename_i fr1 st1 h1; rw [ih _ _ _ _ h1]; exact hx
    ·rename_i v fr1 st1 h1; rw [ih _ _ _ _ h1]; exact hx
    ·cases hx
theorem exec_succ : ∀ (n : Nat) (r : R) (fr : Fr) (st : St) x, exec E n r fr st = some x → exec E (n + 1) r fr st = some x := by
 intro n
 induction n with
 | zero => intro r fr st x h; simp [exec] at h
 | succ n ih =>
  have hcall := sig_mono (E := E) (X := exec E n) (X' := exec E (n + 1)) ih
  intro r fr st x h
  cases r with
  | skip => exact h
  | exit id => exact h
  | ret => exact h
  | seq a b =>
   rw [exec] at h ⊢
   split at h
   ·rename_i fr1 st1 h1
    rw [ih _ _ _ _ h1]
    exact ih _ _ _ _ h
   ·rename_i r' hne
    rw [ih _ _ _ _ h]
    obtain ⟨e, fr', st'⟩ := x
    cases e with
    | normal => exact absurd h (hne fr' st')
    | _ => rfl
  | cond c t el =>
   rw [exec] at h ⊢
   split at h
   ·rename_i b hb
    try simp only
    split at h
    ·rename_i hbt; rw [if_pos hbt]; exact ih _ _ _ _ h
    ·rename_i hbt; rw [if_neg hbt]; exact ih _ _ _ _ h
   ·cases h
  | block id b =>
   rw [exec] at h ⊢
   split at h
   ·rename_i id' fr1 st1 h1
    rw [ih _ _ _ _ h1]
    exact h
   ·rename_i r' hne
    rw [ih _ _ _ _ h]
    obtain ⟨e, fr', st'⟩ := x
    cases e with
    | exit id' => exact absurd h (hne id' fr' st')
    | _ => rfl
  | loop b =>
   rw [exec] at h ⊢
   split at h
   ·rename_i fr1 st1 h1
    rw [ih _ _ _ _ h1]
    exact ih _ _ _ _ h
   ·rename_i r' hne
    rw [ih _ _ _ _ h]
    obtain ⟨e, fr', st'⟩ := x
    cases e with
    | normal => exact absurd h (hne fr' st')
    | _ => rfl
  | ops d l =>
   cases d with
   | false => rw [exec] at h ⊢; exact runOps_mono hcall _ _ _ _ h
   | true => rw [exec] at h ⊢; exact runOpsD_mono hcall _ _ _ _ _ _ h
  | rangeF g ps nt as bd =>
   rw [exec] at h ⊢
   split at h
   ·rename_i f vs ht
    try simp only
    split at h
    ·rename_i hf
     rw [if_pos hf]
     split at h
     ·rename_i v st2 h1
      rw [hcall _ _ _ _ h1]
      exact h
     ·cases h
    ·cases h
   ·cases h
theorem exec_mono {n m : Nat} (hnm : n ≤ m) {r : R} {fr : Fr} {st : St} {x} (h : exec E n r fr st = some x) : exec E m r fr st = some x := by
 induction hnm with
 | refl => exact h
 | step _ ih => exact exec_succ _ _ _ _ _ ih
theorem call_mono {n m : Nat} (hnm : n ≤ m) {f : FuncId} {args : List Value} {st : St} {x} (h : call E n f args st = some x) : call E m f args st = some x :=
 sig_mono (fun _ _ _ _ => exec_mono hnm) _ _ _ _ h
abbrev Post := Ex → Fr → St → Prop
def DW (E : Env) (r : R) (fr : Fr) (st : St) (Q : Post) : Prop := ∃ n e fr' st', exec E n r fr st = some (e, fr', st') ∧ Q e fr' st'
def DL (E : Env) (l : List ROper) (fr : Fr) (st : St) (Q : Post) : Prop := ∃ n e fr' st', runOps (call E n) l fr st = some (e, fr', st') ∧ Q e fr' st'
def DD (E : Env) (i : Nat) (acc : List (Nat × FP)) (l : List ROper) (fr : Fr) (st : St) (Q : Post) : Prop := ∃ n e fr' st', runOpsD (call E n) i acc l fr st = some (e, fr', st') ∧ Q e fr' st'
def DR (E : Env) (f : FuncId) (args : List Value) (st : St) (o : Out) (st' : St) : Prop := ∃ n, call E n f args st = some (o, st')
def DC (E : Env) (f : FuncId) (args : List Value) (st : St) (Q : Out → St → Prop) : Prop := ∃ o st', DR E f args st o st' ∧ Q o st'
def seqK (E : Env) (b : R) (Q : Post) : Post
 | .normal, fr, st => DW E b fr st Q
 | .exit i, fr, st => Q (.exit i) fr st
 | .ret, fr, st => Q .ret fr st
 | .pan v, fr, st => Q (.pan v) fr st
def blockK (id : Nat) (Q : Post) : Post
 | .normal, fr, st => Q .normal fr st
 | .exit i, fr, st => if i = id then Q .normal fr st else Q (.exit i) fr st
 | .ret, fr, st => Q .ret fr st
 | .pan v, fr, st => Q (.pan v) fr st
def endK (res : List RRes) (st : St) (Q : Out → St → Prop) : Post
 | .normal, fr, st' => ∃ v, resV fr st'.h res = some v ∧ Q (back st (.ret v) st').1 (back st (.ret v) st').2
 | .ret, fr, st' => ∃ v, resV fr st'.h res = some v ∧ Q (back st (.ret v) st').1 (back st (.ret v) st').2
 | .pan v, _, st' => Q (back st (.pan v) st').1 (back st (.pan v) st').2
 | .exit _, _, _ => False
def callK (E : Env) (dst : Option Nat) (os : List ROper) (fr : Fr) (st : St) (Q : Post) : Out → St → Prop
 | .ret v, st' => DL E os (putD fr dst v) (joined st st') Q
 | .pan v, st' => Q (.pan v) fr (joined st st')
@[simp] theorem seqK_normal {b : R} {Q : Post} {fr st} : seqK E b Q .normal fr st ↔ DW E b fr st Q := Iff.rfl
@[simp] theorem seqK_exit {b : R} {Q : Post} {fr st i} : seqK E b Q (.exit i) fr st ↔ Q (.exit i) fr st := Iff.rfl
@[simp] theorem seqK_ret {b : R} {Q : Post} {fr st} : seqK E b Q .ret fr st ↔ Q .ret fr st := Iff.rfl
@[simp] theorem seqK_pan {b : R} {Q : Post} {fr st v} : seqK E b Q (.pan v) fr st ↔ Q (.pan v) fr st := Iff.rfl
@[simp] theorem blockK_normal {id : Nat} {Q : Post} {fr st} : blockK id Q .normal fr st ↔ Q .normal fr st := Iff.rfl
@[simp] theorem blockK_exit {id : Nat} {Q : Post} {fr st i} : blockK id Q (.exit i) fr st ↔ if i = id then Q .normal fr st else Q (.exit i) fr st := Iff.rfl
@[simp] theorem blockK_ret {id : Nat} {Q : Post} {fr st} : blockK id Q .ret fr st ↔ Q .ret fr st := Iff.rfl
@[simp] theorem blockK_pan {id : Nat} {Q : Post} {fr st v} : blockK id Q (.pan v) fr st ↔ Q (.pan v) fr st := Iff.rfl
theorem endK_ret {res : List RRes} {st st' : St} {Q : Out → St → Prop} {fr} : endK res st Q .ret fr st' ↔ ∃ v, resV fr st'.h res = some v ∧ Q (back st (.ret v) st').1 (back st (.ret v) st').2 := Iff.rfl
@[simp] theorem callK_ret {dst : Option Nat} {os : List ROper} {fr : Fr} {st st' : St} {Q : Post} {v} : callK E dst os fr st Q (.ret v) st' ↔ DL E os (putD fr dst v) (joined st st') Q := Iff.rfl
@[simp] theorem callK_pan {dst : Option Nat} {os : List ROper} {fr : Fr} {st st' : St} {Q : Post} {v} : callK E dst os fr st Q (.pan v) st' ↔ Q (.pan v) fr (joined st st') := Iff.rfl
theorem DW.imp {r : R} {fr st} {Q Q' : Post} (h : DW E r fr st Q) (k : ∀ e fr st, Q e fr st → Q' e fr st) : DW E r fr st Q' := by
 obtain ⟨n, e, fr', st', h1, h2⟩ := h; exact ⟨n, e, fr', st', h1, k _ _ _ h2⟩
theorem DC.imp {f : FuncId} {args st} {Q Q' : Out → St → Prop} (h : DC E f args st Q) (k : ∀ o st, Q o st → Q' o st) : DC E f args st Q' := by
 obtain ⟨o, st', h1, h2⟩ := h; exact ⟨o, st', h1, k _ _ h2⟩
theorem DR.unique {f : FuncId} {args st o st' o2 st2} (h : DR E f args st o st') (k : DR E f args st o2 st2) : o = o2 ∧ st' = st2 := by
 obtain ⟨n, h⟩ := h; obtain ⟨m, k⟩ := k
 have h1 := call_mono (Nat.le_max_left n m) h
 have k1 := call_mono (Nat.le_max_right n m) k
 rw [h1] at k1
 simpa using k1
theorem DC_of {f : FuncId} {args st o st'} (h : DR E f args st o st') {Q : Out → St → Prop} : DC E f args st Q ↔ Q o st' :=
 ⟨fun ⟨o2, st2, h1, h2⟩ => by obtain ⟨rfl, rfl⟩ := h.unique h1; exact h2, fun hq => ⟨o, st', h, hq⟩⟩
theorem DR_of {f : FuncId} {args st o st'} (h : DC E f args st fun o2 st2 => o2 = o ∧ st2 = st') : DR E f args st o st' := by
 obtain ⟨o2, st2, h1, rfl, rfl⟩ := h; exact h1
@[simp] theorem DW_skip {fr st} {Q : Post} : DW E .skip fr st Q ↔ Q .normal fr st := by
 constructor
 ·rintro ⟨n, e, fr', st', h, hq⟩
  cases n with
  | zero => simp [exec] at h
  | succ n => simp only [exec, Option.some.injEq, Prod.mk.injEq] at h; obtain ⟨rfl, rfl, rfl⟩ := h; exact hq
 ·intro h; exact ⟨1, _, _, _, rfl, h⟩
@[simp] theorem DW_exit {id fr st} {Q : Post} : DW E (.exit id) fr st Q ↔ Q (.exit id) fr st := by
 constructor
 ·rintro ⟨n, e, fr', st', h, hq⟩
  cases n with
  | zero => simp [exec] at h
  | succ n => simp only [exec, Option.some.injEq, Prod.mk.injEq] at h; obtain ⟨rfl, rfl, rfl⟩ := h; exact hq
 ·intro h; exact ⟨1, _, _, _, rfl, h⟩
@[simp] theorem DW_ret {fr st} {Q : Post} : DW E .ret fr st Q ↔ Q .ret fr st := by
 constructor
 ·rintro ⟨n, e, fr', st', h, hq⟩
  cases n with
  | zero => simp [exec] at h
  | succ n => simp only [exec, Option.some.injEq, Prod.mk.injEq] at h; obtain ⟨rfl, rfl, rfl⟩ := h; exact hq
 ·intro h; exact ⟨1, _, _, _, rfl, h⟩
@[simp] theorem DW_seq {a b : R} {fr st} {Q : Post} : DW E (.seq a b) fr st Q ↔ DW E a fr st (seqK E b Q) := by
 constructor
 ·rintro ⟨n, e, fr', st', h, hq⟩
  cases n with
  | zero => simp [exec] at h
  | succ n =>
   rw [exec] at h
   split at h
   ·rename_i fr1 st1 h1
    exact ⟨n, _, _, _, h1, n, _, _, _, h, hq⟩
   ·rename_i r' hne
    refine ⟨n, _, _, _, h, ?_⟩
    cases e with
    | normal => exact absurd h (hne fr' st')
    | _ => exact hq
 ·rintro ⟨n, e, fr', st', h, hq⟩
  cases e with
  | normal =>
   obtain ⟨m, e2, fr2, st2, h2, hq2⟩ := hq
   refine ⟨max n m + 1, e2, fr2, st2, ?_, hq2⟩
   rw [exec, exec_mono (Nat.le_max_left n m) h]
   exact exec_mono (Nat.le_max_right n m) h2
  | _ =>
   refine ⟨n + 1, _, fr', st', ?_, hq⟩
   rw [exec, h]
theorem DW_cond {c : Operand} {t el : R} {fr st} {Q : Post} : DW E (.cond c t el) fr st Q ↔ ∃ b, ev fr c = .bool b ∧ (b = true → DW E t fr st Q) ∧ (b = false → DW E el fr st Q) := by
 constructor
 ·rintro ⟨n, e, fr', st', h, hq⟩
  cases n with
  | zero => simp [exec] at h
  | succ n =>
   rw [exec] at h
   split at h
   ·rename_i b hb
    refine ⟨b, hb, fun h1 => ?_, fun h1 => ?_⟩
    ·subst h1; exact ⟨n, _, _, _, by simpa using h, hq⟩
    ·subst h1; exact ⟨n, _, _, _, by simpa using h, hq⟩
   ·cases h
 ·rintro ⟨b, hb, h1, h2⟩
  cases b with
  | true =>
   obtain ⟨n, e, fr', st', h, hq⟩ := h1 rfl
   exact ⟨n + 1, e, fr', st', by rw [exec, hb]; simpa using h, hq⟩
  | false =>
   obtain ⟨n, e, fr', st', h, hq⟩ := h2 rfl
   exact ⟨n + 1, e, fr', st', by rw [exec, hb]; simpa using h, hq⟩
@[simp] theorem DW_block {id : Nat} {b : R} {fr st} {Q : Post} : DW E (.block id b) fr st Q ↔ DW E b fr st (blockK id Q) := by
 constructor
 ·rintro ⟨n, e, fr', st', h, hq⟩
  cases n with
  | zero => simp [exec] at h
  | succ n =>
   rw [exec] at h
   split at h
   ·rename_i id' fr1 st1 h1
    refine ⟨n, _, _, _, h1, ?_⟩
    split at h
    ·rename_i hid
     simp only [Option.some.injEq, Prod.mk.injEq] at h
     obtain ⟨rfl, rfl, rfl⟩ := h
     simp [hid]; exact hq
    ·rename_i hid
     simp only [Option.some.injEq, Prod.mk.injEq] at h
     obtain ⟨rfl, rfl, rfl⟩ := h
     simp [hid]; exact hq
   ·rename_i r' hne
    refine ⟨n, _, _, _, h, ?_⟩
    cases e with
    | exit id' => exact absurd h (hne id' fr' st')
    | _ => exact hq
 ·rintro ⟨n, e, fr', st', h, hq⟩
  cases e with
  | exit id' =>
   simp only [blockK_exit] at hq
   by_cases hid : id' = id
   ·rw [if_pos hid] at hq
    exact ⟨n + 1, _, _, _, by rw [exec, h]; simp [hid], hq⟩
   ·rw [if_neg hid] at hq
    exact ⟨n + 1, _, _, _, by rw [exec, h]; simp [hid], hq⟩
  | _ => exact ⟨n + 1, _, _, _, by rw [exec, h], hq⟩
theorem DW_loop_unfold {b : R} {fr st} {Q : Post} : DW E (.loop b) fr st Q ↔ DW E b fr st (seqK E (.loop b) Q) := by
 constructor
 ·rintro ⟨n, e, fr', st', h, hq⟩
  cases n with
  | zero => simp [exec] at h
  | succ n =>
   rw [exec] at h
   split at h
   ·rename_i fr1 st1 h1
    exact ⟨n, _, _, _, h1, n, _, _, _, h, hq⟩
   ·rename_i r' hne
    refine ⟨n, _, _, _, h, ?_⟩
    cases e with
    | normal => exact absurd h (hne fr' st')
    | _ => exact hq
 ·rintro ⟨n, e, fr', st', h, hq⟩
  cases e with
  | normal =>
   obtain ⟨m, e2, fr2, st2, h2, hq2⟩ := hq
   refine ⟨max n m + 1, e2, fr2, st2, ?_, hq2⟩
   rw [exec, exec_mono (Nat.le_max_left n m) h]
   exact exec_mono (Nat.le_max_right n m) h2
  | _ =>
   refine ⟨n + 1, _, fr', st', ?_, hq⟩
   rw [exec, h]
def roundK (I : Nat → Fr → St → Prop) (k : Nat) (Q : Post) : Post
 | .normal, fr, st => ∃ k', k' < k ∧ I k' fr st
 | .exit i, fr, st => Q (.exit i) fr st
 | .ret, fr, st => Q .ret fr st
 | .pan v, fr, st => Q (.pan v) fr st
@[simp] theorem roundK_normal {I : Nat → Fr → St → Prop} {k : Nat} {Q : Post} {fr st} : roundK I k Q .normal fr st ↔ ∃ k', k' < k ∧ I k' fr st := Iff.rfl
@[simp] theorem roundK_exit {I : Nat → Fr → St → Prop} {k : Nat} {Q : Post} {fr st i} : roundK I k Q (.exit i) fr st ↔ Q (.exit i) fr st := Iff.rfl
@[simp] theorem roundK_ret {I : Nat → Fr → St → Prop} {k : Nat} {Q : Post} {fr st} : roundK I k Q .ret fr st ↔ Q .ret fr st := Iff.rfl
@[simp] theorem roundK_pan {I : Nat → Fr → St → Prop} {k : Nat} {Q : Post} {fr st v} : roundK I k Q (.pan v) fr st ↔ Q (.pan v) fr st := Iff.rfl
theorem DW_loop (I : Nat → Fr → St → Prop) {b : R} {Q : Post} (hI : ∀ k fr st, I k fr st → DW E b fr st (roundK I k Q)) {k : Nat} {fr st} (h : I k fr st) : DW E (.loop b) fr st Q := by
 induction k using Nat.strongRecOn generalizing fr st with
 | ind k ih =>
  rw [DW_loop_unfold]
  refine (hI k fr st h).imp fun e fr' st' hq => ?_
  cases e with
  | normal => obtain ⟨k', hk, hi⟩ := hq; exact ih k' hk hi
  | _ => exact hq
theorem DW_ops {l : List ROper} {fr st} {Q : Post} : DW E (.ops false l) fr st Q ↔ DL E l fr st Q := by
 constructor
 ·rintro ⟨n, e, fr', st', h, hq⟩
  cases n with
  | zero => simp [exec] at h
  | succ n => exact ⟨n, _, _, _, h, hq⟩
 ·rintro ⟨n, e, fr', st', h, hq⟩; exact ⟨n + 1, _, _, _, h, hq⟩
theorem DW_opsD {l : List ROper} {fr st} {Q : Post} : DW E (.ops true l) fr st Q ↔ DD E 0 [] l fr st Q := by
 constructor
 ·rintro ⟨n, e, fr', st', h, hq⟩
  cases n with
  | zero => simp [exec] at h
  | succ n => exact ⟨n, _, _, _, h, hq⟩
 ·rintro ⟨n, e, fr', st', h, hq⟩; exact ⟨n + 1, _, _, _, h, hq⟩
attribute [simp] DW_ops
def stepW (op : ROp) (e : Operand → Value) (st : St) (Q : Res → St → Prop) : Prop := ∃ r st', step op e st = some (r, st') ∧ Q r st'
def isCall : ROp → Bool
 | .call _ _ => true
 | _ => false
def stepK (E : Env) (dst : Option Nat) (os : List ROper) (fr : Fr) (Q : Post) : Res → St → Prop
 | .val v, st' => DL E os (putD fr dst v) st' Q
 | .pan v, st' => Q (.pan v) fr st'
@[simp] theorem stepK_val {dst : Option Nat} {os : List ROper} {fr : Fr} {st' : St} {Q : Post} {v} : stepK E dst os fr Q (.val v) st' ↔ DL E os (putD fr dst v) st' Q := Iff.rfl
@[simp] theorem stepK_pan {dst : Option Nat} {os : List ROper} {fr : Fr} {st' : St} {Q : Post} {v} : stepK E dst os fr Q (.pan v) st' ↔ Q (.pan v) fr st' := Iff.rfl
@[simp] theorem DL_nil {fr st} {Q : Post} : DL E [] fr st Q ↔ Q .normal fr st := by
 constructor
 ·rintro ⟨n, e, fr', st', h, hq⟩
  simp only [runOps, Option.some.injEq, Prod.mk.injEq] at h; obtain ⟨rfl, rfl, rfl⟩ := h; exact hq
 ·intro h; exact ⟨0, _, _, _, rfl, h⟩
theorem DL_skip {o : ROper} {os : List ROper} {fr st} {Q : Post} (hw : wanted fr o.guard = false) : DL E (o :: os) fr st Q ↔ DL E os (putD fr o.dst undef) st Q := by
 unfold DL
 simp only [runOps, hw]
 exact Iff.rfl
theorem runOps_step {c : CallF} {o : ROper} {os : List ROper} {fr : Fr} {st : St} (hw : wanted fr o.guard = true) (hop : isCall o.op = false) :
  runOps c (o :: os) fr st = match step o.op (ev fr) st with
    | some (.val v, st') => runOps c os (putD fr o.dst v) st'
    | some (.pan v, st') => some (.pan v, fr, st')
    | none => none := by
 simp only [runOps, hw, if_true]
 cases ho : o.op <;> first | rfl | (rw [ho] at hop; cases hop)
theorem DL_step {o : ROper} {os : List ROper} {fr st} {Q : Post} (hw : wanted fr o.guard = true) (hop : isCall o.op = false) : DL E (o :: os) fr st Q ↔ stepW o.op (ev fr) st (stepK E o.dst os fr Q) := by
 unfold DL stepW
 simp only [runOps_step hw hop]
 constructor
 ·rintro ⟨n, e, fr', st', h, hq⟩
  split at h
  ·rename_i v st1 hs; exact ⟨_, _, hs, n, _, _, _, h, hq⟩
  ·rename_i v st1 hs
   simp only [Option.some.injEq, Prod.mk.injEq] at h; obtain ⟨rfl, rfl, rfl⟩ := h
   exact ⟨_, _, hs, hq⟩
  ·cases h
 ·rintro ⟨r, st1, hs, hq⟩
  rw [hs]
  cases r with
  | val v => obtain ⟨n, e, fr', st', h, hq⟩ := hq; exact ⟨n, e, fr', st', h, hq⟩
  | pan v => exact ⟨0, _, _, _, rfl, hq⟩
theorem DL_call {dst : Option Nat} {g : Option (Nat × Bool)} {anc : Nat} {f : Operand} {args : List Operand} {os : List ROper} {fr st} {Q : Post} (hw : wanted fr g = true) :
  DL E (⟨dst, g, .call f args, anc⟩ :: os) fr st Q ↔ ∃ h vs, target (ev fr f) (args.map (ev fr)) = some (h, vs) ∧ DC E h vs { st with fl := st.h.length } (callK E dst os fr st Q) := by
 unfold DL
 simp only [runOps, hw, if_true, doCall]
 constructor
 ·rintro ⟨n, e, fr', st', h, hq⟩
  split at h
  ·rename_i v st1 hs
   split at hs
   ·rename_i g vs ht
    exact ⟨g, vs, ht, _, _, ⟨n, hs⟩, n, _, _, _, h, hq⟩
   ·cases hs
  ·rename_i v st1 hs
   split at hs
   ·rename_i g vs ht
    simp only [Option.some.injEq, Prod.mk.injEq] at h; obtain ⟨rfl, rfl, rfl⟩ := h
    exact ⟨g, vs, ht, _, _, ⟨n, hs⟩, hq⟩
   ·cases hs
  ·cases h
 ·rintro ⟨g, vs, ht, o, st1, ⟨n, hs⟩, hq⟩
  rw [ht]
  cases o with
  | ret v =>
   obtain ⟨m, e, fr', st', h, hq⟩ := hq
   refine ⟨max n m, e, fr', st', ?_, hq⟩
   simp only [call_mono (Nat.le_max_left n m) hs]
   exact runOps_mono (fun f a st x hx => call_mono (Nat.le_max_right n m) hx) _ _ _ _ h
  | pan v => refine ⟨n, _, _, _, ?_, hq⟩; simp only [hs]
theorem DL_step' {dst : Option Nat} {anc : Nat} {op : ROp} {os : List ROper} {fr st} {Q : Post} (hop : isCall op = false) : DL E (⟨dst, none, op, anc⟩ :: os) fr st Q ↔ stepW op (ev fr) st (stepK E dst os fr Q) := DL_step rfl hop
theorem DL_call' {dst : Option Nat} {anc : Nat} {f : Operand} {args : List Operand} {os : List ROper} {fr st} {Q : Post} :
  DL E (⟨dst, none, .call f args, anc⟩ :: os) fr st Q ↔ ∃ h vs, target (ev fr f) (args.map (ev fr)) = some (h, vs) ∧ DC E h vs { st with fl := st.h.length } (callK E dst os fr st Q) := DL_call rfl
def isW : Value → Bool → Bool
 | .bool b, w => b == w
 | _, _ => false
@[simp] theorem isW_bool {b w : Bool} : isW (.bool b) w = (b == w) := rfl
@[simp] theorem isW_undef {w : Bool} : isW undef w = false := rfl
theorem wanted_isW (fr : Fr) (s : Nat) (w : Bool) : wanted fr (some (s, w)) = isW (get fr s) w := by
 simp only [wanted]; cases get fr s <;> rfl
theorem DL_guard {dst : Option Nat} {s : Nat} {want : Bool} {anc : Nat} {op : ROp} {os : List ROper} {fr st} {Q : Post} :
  DL E (⟨dst, some (s, want), op, anc⟩ :: os) fr st Q ↔ (isW (get fr s) want = true → DL E (⟨dst, none, op, anc⟩ :: os) fr st Q) ∧ (isW (get fr s) want = false → DL E os (putD fr dst undef) st Q) := by
 rw [← wanted_isW]
 cases h : wanted fr (some (s, want)) with
 | true =>
  have : DL E (⟨dst, some (s, want), op, anc⟩ :: os) fr st Q ↔ DL E (⟨dst, none, op, anc⟩ :: os) fr st Q := by
   unfold DL
   simp only [runOps, h, if_true]
   exact Iff.rfl
  simp [this]
 | false => rw [DL_skip (by exact h)]; simp
theorem DC_fn {f : FuncId} {body : R} {res : List RRes} {args st} {Q : Out → St → Prop} (hF : E.F f = some ⟨body, res⟩) (hS : E.S f = none) (hlt : ¬ yB ≤ f := by decide) : DC E f args st Q ↔ DW E body args st (endK res st Q) := by
 have hc : ∀ n, call E n f args st = callOf E (exec E n) f args st := fun n => by simp only [call, callSig, hS]
 constructor
 ·rintro ⟨o, st', ⟨n, h⟩, hq⟩
  rw [hc] at h
  simp only [callOf, if_neg hlt, hF] at h
  split at h
  ·rename_i fr1 st1 h1
   simp only [Option.map_eq_some_iff] at h
   obtain ⟨v, hv, hb⟩ := h
   exact ⟨n, _, _, _, h1, v, hv, by rw [hb]; exact hq⟩
  ·rename_i fr1 st1 h1
   simp only [Option.map_eq_some_iff] at h
   obtain ⟨v, hv, hb⟩ := h
   exact ⟨n, _, _, _, h1, v, hv, by rw [hb]; exact hq⟩
  ·rename_i v fr1 st1 h1
   simp only [Option.some.injEq] at h
   exact ⟨n, _, _, _, h1, by simp only [endK, h]; exact hq⟩
  ·cases h
 ·rintro ⟨n, e, fr', st', h, hq⟩
  cases e with
  | normal =>
   obtain ⟨v, hv, hq⟩ := hq
   exact ⟨_, _, ⟨n, by rw [hc]; simp only [callOf, if_neg hlt, hF, h, hv, Option.map_some]⟩, hq⟩
  | ret =>
   obtain ⟨v, hv, hq⟩ := hq
   exact ⟨_, _, ⟨n, by rw [hc]; simp only [callOf, if_neg hlt, hF, h, hv, Option.map_some]⟩, hq⟩
  | pan v => exact ⟨_, _, ⟨n, by rw [hc]; simp only [callOf, if_neg hlt, hF, h]⟩, hq⟩
  | exit i => exact hq.elim
theorem DW_rangeF {g : Operand} {ps : List Nat} {nt : Nat} {as bd : Code} {fr : Fr} {st : St} {Q : Post} {f : FuncId} {vs : List Value} (ht : target (ev fr g) [tok st.h.length] = some (f, vs)) (hf : f < yB)
  (h : DC E f vs ⟨st.h ++ [.loop false nt fr ps as bd], st.h.length + 1⟩ fun o st2 => (∃ v, o = .ret v) ∧ ∃ st3, over st.h.length (joined ⟨st.h ++ [.loop false nt fr ps as bd], st.fl⟩ st2) = some st3 ∧ Q .normal fr st3) : DW E (.rangeF g ps nt as bd) fr st Q := by
 obtain ⟨o, st2, ⟨n, hc⟩, ⟨v, rfl⟩, st3, h3, hq⟩ := h
 refine ⟨n + 1, .normal, fr, st3, ?_, hq⟩
 rw [exec, ht]
 simp only [hf, if_true]
 have hc' : callSig E.S (callOf E (exec E n)) f vs { looped nt fr ps as bd st with fl := st.h.length + 1 } = some (.ret v, st2) := hc
 rw [hc']
 show (over st.h.length (joined (looped nt fr ps as bd st) st2)).map _ = _
 rw [show over st.h.length (joined (looped nt fr ps as bd st) st2) = some st3 from h3]
 rfl
theorem DC_yield {k : Nat} {args : List Value} {st : St} {Q : Out → St → Prop} {b : Bool} {nt : Nat} {fr : List Value} {ps : List Nat} {as bd : Code} {ra rb : R} (hS : E.S (yB + k) = none)
  (hk : st.h[k]? = some (.loop b nt fr ps as bd)) (hl : args.length = ps.length) (ha : E.cmp nt as = some ra) (hb : E.cmp nt bd = some rb)
  (h : DW E ra (putAll fr ps args) st fun e fr1 st1 => e = .normal ∧ ∃ st2, turn false k st1 = some st2 ∧ DW E rb fr1 st2 fun e' _ st3 => e' = .normal ∧ ∃ st4, turn true k st3 = some st4 ∧ Q (.ret (.bool true)) st4) : DC E (yB + k) args st Q := by
 obtain ⟨n, e, fr1, st1, h1, rfl, st2, h2, m, e', fr3, st3, h3, rfl, st4, h4, hq⟩ := h
 refine ⟨_, st4, ⟨max n m, ?_⟩, hq⟩
 simp only [call, callSig, hS, callOf, if_pos (Nat.le_add_right yB k), Nat.add_sub_cancel_left]
 unfold callY
 simp only [hk, hl, if_true, ha, hb, exec_mono (Nat.le_max_left n m) h1, h2, exec_mono (Nat.le_max_right n m) h3, h4, Option.map_some]
@[simp] theorem DD_nil {i : Nat} {acc : List (Nat × FP)} {fr st} {Q : Post} : DD E i acc [] fr st Q ↔ Q .normal fr st := by
 constructor
 ·rintro ⟨n, e, fr', st', h, hq⟩
  simp only [runOpsD, Option.some.injEq, Prod.mk.injEq] at h; obtain ⟨rfl, rfl, rfl⟩ := h; exact hq
 ·intro h; exact ⟨0, _, _, _, rfl, h⟩
def stepKD (E : Env) (i : Nat) (acc : List (Nat × FP)) (o : ROper) (os : List ROper) (fr : Fr) (st : St) (Q : Post) : Res → St → Prop
 | .val v, st' => clashes acc o.anc { fpOf o.op (ev fr) st with al := st'.h.length != st.h.length } = false ∧ DD E (i + 1) ((i, { fpOf o.op (ev fr) st with al := st'.h.length != st.h.length }) :: acc) os (putD fr o.dst v) st' Q
 | .pan _, _ => False
@[simp] theorem stepKD_val {i : Nat} {acc : List (Nat × FP)} {dst : Option Nat} {g : Option (Nat × Bool)} {op : ROp} {anc : Nat} {os : List ROper} {fr : Fr} {st st' : St} {Q : Post} {v} :
  stepKD E i acc ⟨dst, g, op, anc⟩ os fr st Q (.val v) st' ↔ clashes acc anc { fpOf op (ev fr) st with al := st'.h.length != st.h.length } = false ∧ DD E (i + 1) ((i, { fpOf op (ev fr) st with al := st'.h.length != st.h.length }) :: acc) os (putD fr dst v) st' Q := Iff.rfl
theorem DD_step' {i : Nat} {acc : List (Nat × FP)} {dst : Option Nat} {anc : Nat} {op : ROp} {os : List ROper} {fr st} {Q : Post} (hop : isCall op = false) :
  DD E i acc (⟨dst, none, op, anc⟩ :: os) fr st Q ↔ stepW op (ev fr) st (stepKD E i acc ⟨dst, none, op, anc⟩ os fr st Q) := by
 have hd : ∀ c : CallF, opD c op (ev fr) st = match step op (ev fr) st with
  | some (.val v, st') => some (v, st', { fpOf op (ev fr) st with al := st'.h.length != st.h.length })
  | _ => none := by intro c; cases op <;> first | rfl | simp [isCall] at hop
 unfold DD stepW
 simp only [runOpsD, wanted, if_true, hd]
 constructor
 ·rintro ⟨n, e, fr', st', h, hq⟩
  split at h
  ·rename_i v st1 fp hs
   split at hs
   ·rename_i v' st1' hs'
    simp only [Option.some.injEq, Prod.mk.injEq] at hs
    obtain ⟨rfl, rfl, rfl⟩ := hs
    split at h
    ·cases h
    ·rename_i hcl
     exact ⟨_, _, hs', by simpa using hcl, n, _, _, _, h, hq⟩
   ·cases hs
  ·cases h
 ·rintro ⟨r, st1, hs, hq⟩
  rw [hs]
  cases r with
  | val v =>
   obtain ⟨hcl, n, e, fr', st', h, hq⟩ := hq
   exact ⟨n, e, fr', st', by simp only at hcl ⊢; rw [if_neg (by simpa using hcl)]; exact h, hq⟩
  | pan v => exact hq.elim
def callKD (E : Env) (i : Nat) (acc : List (Nat × FP)) (dst : Option Nat) (anc : Nat) (os : List ROper) (fr : Fr) (st : St) (Q : Post) : Out → St → Prop
 | .ret v, st' => clashes acc anc { all := true, bad := decide (st'.fl < st.h.length), al := st'.h.length != st.h.length } = false ∧ DD E (i + 1) ((i, { all := true, bad := decide (st'.fl < st.h.length), al := st'.h.length != st.h.length }) :: acc) os (putD fr dst v) (joined st st') Q
 | .pan _, _ => False
@[simp] theorem callKD_ret {i : Nat} {acc : List (Nat × FP)} {dst : Option Nat} {anc : Nat} {os : List ROper} {fr : Fr} {st st' : St} {Q : Post} {v} :
  callKD E i acc dst anc os fr st Q (.ret v) st' ↔ clashes acc anc { all := true, bad := decide (st'.fl < st.h.length), al := st'.h.length != st.h.length } = false ∧ DD E (i + 1) ((i, { all := true, bad := decide (st'.fl < st.h.length), al := st'.h.length != st.h.length }) :: acc) os (putD fr dst v) (joined st st') Q := Iff.rfl
theorem DD_call' {i : Nat} {acc : List (Nat × FP)} {dst : Option Nat} {anc : Nat} {f : Operand} {args : List Operand} {os : List ROper} {fr st} {Q : Post} :
  DD E i acc (⟨dst, none, .call f args, anc⟩ :: os) fr st Q ↔ isY (ev fr f) = false ∧ ∃ h vs, target (ev fr f) (args.map (ev fr)) = some (h, vs) ∧ DC E h vs { st with fl := st.h.length } (callKD E i acc dst anc os fr st Q) := by
 unfold DD
 simp only [runOpsD, wanted, if_true, opD, doCall]
 constructor
 ·rintro ⟨n, e, fr', st', h, hq⟩
  split at h
  ·rename_i v st1 fp hs
   split at hs
   ·cases hs
   rename_i hy
   split at hs
   ·rename_i v' st1' hs'
    simp only [Option.some.injEq, Prod.mk.injEq] at hs
    obtain ⟨rfl, rfl, rfl⟩ := hs
    split at hs'
    ·rename_i g vs ht
     split at h
     ·cases h
     ·rename_i hcl
      refine ⟨by simpa using hy, g, vs, ht, _, _, ⟨n, hs'⟩, ?_, n, _, _, _, h, hq⟩
      simpa [joined] using hcl
    ·cases hs'
   ·cases hs
  ·cases h
 ·rintro ⟨hy, g, vs, ht, o, st1, ⟨n, hs⟩, hq⟩
  rw [ht]
  simp only [hy, Bool.false_eq_true, if_false]
  cases o with
  | ret v =>
   obtain ⟨hcl, m, e, fr', st', h, hq⟩ := hq
   refine ⟨max n m, e, fr', st', ?_, hq⟩
   simp only [call_mono (Nat.le_max_left n m) hs]
   rw [if_neg (by simpa [joined] using hcl)]
   exact runOpsD_mono (fun f a st x hx => call_mono (Nat.le_max_right n m) hx) _ _ _ _ _ _ h
  | pan v => exact hq.elim
theorem DD_guard {i : Nat} {acc : List (Nat × FP)} {dst : Option Nat} {s : Nat} {want : Bool} {anc : Nat} {op : ROp} {os : List ROper} {fr st} {Q : Post} :
  DD E i acc (⟨dst, some (s, want), op, anc⟩ :: os) fr st Q ↔ (isW (get fr s) want = true → DD E i acc (⟨dst, none, op, anc⟩ :: os) fr st Q) ∧ (isW (get fr s) want = false → DD E (i + 1) acc os (putD fr dst undef) st Q) := by
 rw [← wanted_isW]
 cases h : wanted fr (some (s, want)) with
 | true =>
  have : DD E i acc (⟨dst, some (s, want), op, anc⟩ :: os) fr st Q ↔ DD E i acc (⟨dst, none, op, anc⟩ :: os) fr st Q := by
   unfold DD
   simp only [runOpsD, h, if_true]
   exact Iff.rfl
  simp [this]
 | false =>
  have : DD E i acc (⟨dst, some (s, want), op, anc⟩ :: os) fr st Q ↔ DD E (i + 1) acc os (putD fr dst undef) st Q := by
   unfold DD
   simp only [runOpsD, h]
   exact Iff.rfl
  simp [this]
end Go.Ai
namespace Go.Ai
variable {E : Env} {e : Operand → Value} {st : St}
attribute [simp] get_put
@[simp] theorem putD_some (fr : Fr) (d : Nat) (v : Value) : putD fr (some d) v = put fr d v := rfl
@[simp] theorem putD_none (fr : Fr) (v : Value) : putD fr none v = fr := rfl
@[simp] theorem get_cons_zero (v : Value) (l : List Value) : get (v :: l) 0 = v := rfl
@[simp] theorem get_cons_succ (v : Value) (l : List Value) (i : Nat) : get (v :: l) (i + 1) = get l i := rfl
@[simp] theorem get_cons_lit (v : Value) (l : List Value) (i : Nat) : get (v :: l) (OfNat.ofNat (i + 1)) = get l i := rfl
@[simp] theorem ev_tmp (fr : Fr) (t : Nat) : ev fr (.tmp t) = get fr t := rfl
@[simp] theorem ev_const (fr : Fr) (v : Value) : ev fr (.const v) = v := rfl
@[simp] theorem ev_func (fr : Fr) (f : FuncId) : ev fr (.func f) = .func (.func f) #[] #[] := rfl
@[simp] theorem target_func (f : FuncId) (first captured : Array Value) (args : List Value) (hf : @LT.lt Nat instLTNat f 1099511627776) : target (.func (.func f) first captured) args = some (f, first.toList ++ args ++ captured.toList) := if_pos hf
@[simp] theorem target_yield (k : Nat) (first captured : Array Value) (args : List Value) : target (.func (.yield k) first captured) args = some (yB + k, args) := rfl
@[simp] theorem isY_func (f : FuncId) (first captured : Array Value) : isY (.func (.func f) first captured) = false := rfl
def resQ (x : Option (Res × St)) (Q : Res → St → Prop) : Prop := ∃ r st', x = some (r, st') ∧ Q r st'
@[simp] theorem resQ_some {r st'} {Q : Res → St → Prop} : resQ (some (r, st')) Q ↔ Q r st' := by
 constructor
 ·rintro ⟨_, _, h, hq⟩; cases h; exact hq
 ·intro h; exact ⟨_, _, rfl, h⟩
theorem stepW_res {op : ROp} {Q : Res → St → Prop} : stepW op e st Q ↔ resQ (step op e st) Q := Iff.rfl
def valS (x : Option Value) (st : St) : Option (Res × St) := x.map fun v => (.val v, st)
@[simp] theorem valS_some {v : Value} : valS (some v) st = some (.val v, st) := rfl
def memS (x : Option (Value × St)) : Option (Res × St) := x.map fun r => (.val r.1, r.2)
@[simp] theorem memS_some {v : Value} {st' : St} : memS (some (v, st')) = some (.val v, st') := rfl
def condK (E : Env) (t el : R) (Q : Post) (fr : Fr) (st : St) (v : Value) : Prop := ∃ b, v = .bool b ∧ (b = true → DW E t fr st Q) ∧ (b = false → DW E el fr st Q)
@[simp] theorem condK_true {t el : R} {Q : Post} {fr st} : condK E t el Q fr st (.bool true) ↔ DW E t fr st Q := by simp [condK]
@[simp] theorem condK_false {t el : R} {Q : Post} {fr st} : condK E t el Q fr st (.bool false) ↔ DW E el fr st Q := by simp [condK]
theorem DW_condK {c : Operand} {t el : R} {fr st} {Q : Post} : DW E (.cond c t el) fr st Q ↔ condK E t el Q fr st (ev fr c) := DW_cond
attribute [simp] DW_condK
def guardK (E : Env) (dst : Option Nat) (op : ROp) (anc : Nat) (os : List ROper) (fr : Fr) (st : St) (Q : Post) (b : Bool) : Prop :=
 (b = true → DL E (⟨dst, none, op, anc⟩ :: os) fr st Q) ∧ (b = false → DL E os (putD fr dst undef) st Q)
@[simp] theorem guardK_true {dst op anc os fr st} {Q : Post} : guardK E dst op anc os fr st Q true ↔ DL E (⟨dst, none, op, anc⟩ :: os) fr st Q := by simp [guardK]
@[simp] theorem guardK_false {dst op anc os fr st} {Q : Post} : guardK E dst op anc os fr st Q false ↔ DL E os (putD fr dst undef) st Q := by simp [guardK]
theorem DL_guardK {dst : Option Nat} {s : Nat} {want : Bool} {anc : Nat} {op : ROp} {os : List ROper} {fr st} {Q : Post} :
  DL E (⟨dst, some (s, want), op, anc⟩ :: os) fr st Q ↔ guardK E dst op anc os fr st Q (isW (get fr s) want) := DL_guard
attribute [simp] DL_guardK
def guardKD (E : Env) (i : Nat) (acc : List (Nat × FP)) (dst : Option Nat) (op : ROp) (anc : Nat) (os : List ROper) (fr : Fr) (st : St) (Q : Post) (b : Bool) : Prop :=
 (b = true → DD E i acc (⟨dst, none, op, anc⟩ :: os) fr st Q) ∧ (b = false → DD E (i + 1) acc os (putD fr dst undef) st Q)
@[simp] theorem guardKD_true {i acc dst op anc os fr st} {Q : Post} : guardKD E i acc dst op anc os fr st Q true ↔ DD E i acc (⟨dst, none, op, anc⟩ :: os) fr st Q := by simp [guardKD]
theorem DD_guardK {i : Nat} {acc : List (Nat × FP)} {dst : Option Nat} {s : Nat} {want : Bool} {anc : Nat} {op : ROp} {os : List ROper} {fr st} {Q : Post} :
  DD E i acc (⟨dst, some (s, want), op, anc⟩ :: os) fr st Q ↔ guardKD E i acc dst op anc os fr st Q (isW (get fr s) want) := DD_guard
attribute [simp] DD_guardK
def tgtQ (E : Env) (x : Option (FuncId × List Value)) (st : St) (K : Out → St → Prop) : Prop := ∃ h vs, x = some (h, vs) ∧ DC E h vs { st with fl := st.h.length } K
@[simp] theorem tgtQ_some {f vs} {st : St} {K : Out → St → Prop} : tgtQ E (some (f, vs)) st K ↔ DC E f vs ⟨st.h, st.h.length⟩ K := by
 constructor
 ·rintro ⟨_, _, h, hq⟩; cases h; exact hq
 ·intro h; exact ⟨_, _, rfl, h⟩
theorem DL_callK {dst : Option Nat} {anc : Nat} {f : Operand} {args : List Operand} {os : List ROper} {fr st} {Q : Post} :
  DL E (⟨dst, none, .call f args, anc⟩ :: os) fr st Q ↔ tgtQ E (target (ev fr f) (args.map (ev fr))) st (callK E dst os fr st Q) := DL_call'
theorem DD_callK {i : Nat} {acc : List (Nat × FP)} {dst : Option Nat} {anc : Nat} {f : Operand} {args : List Operand} {os : List ROper} {fr st} {Q : Post} :
  DD E i acc (⟨dst, none, .call f args, anc⟩ :: os) fr st Q ↔ isY (ev fr f) = false ∧ tgtQ E (target (ev fr f) (args.map (ev fr))) st (callKD E i acc dst anc os fr st Q) := DD_call'
attribute [simp] DL_callK DD_callK
def outQ (x : Option Value) (st st' : St) (Q : Out → St → Prop) : Prop := ∃ v, x = some v ∧ Q (back st (.ret v) st').1 (back st (.ret v) st').2
def pairQ (x : Out × St) (Q : Out → St → Prop) : Prop := Q x.1 x.2
@[simp] theorem pairQ_mk {o st} {Q : Out → St → Prop} : pairQ (o, st) Q ↔ Q o st := Iff.rfl
@[simp] theorem outQ_some {v : Value} {st st' : St} {Q : Out → St → Prop} : outQ (some v) st st' Q ↔ pairQ (back st (.ret v) st') Q := by
 constructor
 ·rintro ⟨_, h, hq⟩; cases h; exact hq
 ·intro h; exact ⟨_, rfl, h⟩
theorem endK_normalQ {res : List RRes} {st st' : St} {Q : Out → St → Prop} {fr} : endK res st Q .normal fr st' ↔ outQ (resV fr st'.h res) st st' Q := Iff.rfl
theorem endK_retQ {res : List RRes} {st st' : St} {Q : Out → St → Prop} {fr} : endK res st Q .ret fr st' ↔ outQ (resV fr st'.h res) st st' Q := Iff.rfl
theorem endK_panQ {res : List RRes} {st st' : St} {Q : Out → St → Prop} {fr v} : endK res st Q (.pan v) fr st' ↔ pairQ (back st (.pan v) st') Q := Iff.rfl
attribute [simp] endK_normalQ endK_retQ endK_panQ
@[simp] theorem DL_mv {a} {dst : Option Nat} {anc : Nat} {os : List ROper} {fr st} {Q : Post} : DL E (⟨dst, none, .mv a, anc⟩ :: os) fr st Q ↔ resQ (step (.mv a) (ev fr) st) (stepK E dst os fr Q) := (DL_step' rfl).trans stepW_res
@[simp] theorem DD_mv {a} {i : Nat} {acc : List (Nat × FP)} {dst : Option Nat} {anc : Nat} {os : List ROper} {fr st} {Q : Post} : DD E i acc (⟨dst, none, .mv a, anc⟩ :: os) fr st Q ↔ resQ (step (.mv a) (ev fr) st) (stepKD E i acc ⟨dst, none, .mv a, anc⟩ os fr st Q) := (DD_step' rfl).trans stepW_res
@[simp] theorem DL_pick {a b c} {dst : Option Nat} {anc : Nat} {os : List ROper} {fr st} {Q : Post} : DL E (⟨dst, none, .pick a b c, anc⟩ :: os) fr st Q ↔ resQ (step (.pick a b c) (ev fr) st) (stepK E dst os fr Q) := (DL_step' rfl).trans stepW_res
@[simp] theorem DD_pick {a b c} {i : Nat} {acc : List (Nat × FP)} {dst : Option Nat} {anc : Nat} {os : List ROper} {fr st} {Q : Post} : DD E i acc (⟨dst, none, .pick a b c, anc⟩ :: os) fr st Q ↔ resQ (step (.pick a b c) (ev fr) st) (stepKD E i acc ⟨dst, none, .pick a b c, anc⟩ os fr st Q) := (DD_step' rfl).trans stepW_res
@[simp] theorem DL_new {a b} {dst : Option Nat} {anc : Nat} {os : List ROper} {fr st} {Q : Post} : DL E (⟨dst, none, .new a b, anc⟩ :: os) fr st Q ↔ resQ (step (.new a b) (ev fr) st) (stepK E dst os fr Q) := (DL_step' rfl).trans stepW_res
@[simp] theorem DD_new {a b} {i : Nat} {acc : List (Nat × FP)} {dst : Option Nat} {anc : Nat} {os : List ROper} {fr st} {Q : Post} : DD E i acc (⟨dst, none, .new a b, anc⟩ :: os) fr st Q ↔ resQ (step (.new a b) (ev fr) st) (stepKD E i acc ⟨dst, none, .new a b, anc⟩ os fr st Q) := (DD_step' rfl).trans stepW_res
@[simp] theorem DL_box {a b} {dst : Option Nat} {anc : Nat} {os : List ROper} {fr st} {Q : Post} : DL E (⟨dst, none, .box a b, anc⟩ :: os) fr st Q ↔ resQ (step (.box a b) (ev fr) st) (stepK E dst os fr Q) := (DL_step' rfl).trans stepW_res
@[simp] theorem DL_build {a b} {dst : Option Nat} {anc : Nat} {os : List ROper} {fr st} {Q : Post} : DL E (⟨dst, none, .build a b, anc⟩ :: os) fr st Q ↔ resQ (step (.build a b) (ev fr) st) (stepK E dst os fr Q) := (DL_step' rfl).trans stepW_res
@[simp] theorem DD_build {a b} {i : Nat} {acc : List (Nat × FP)} {dst : Option Nat} {anc : Nat} {os : List ROper} {fr st} {Q : Post} : DD E i acc (⟨dst, none, .build a b, anc⟩ :: os) fr st Q ↔ resQ (step (.build a b) (ev fr) st) (stepKD E i acc ⟨dst, none, .build a b, anc⟩ os fr st Q) := (DD_step' rfl).trans stepW_res
@[simp] theorem DL_buildSlice {a b c d} {dst : Option Nat} {anc : Nat} {os : List ROper} {fr st} {Q : Post} : DL E (⟨dst, none, .buildSlice a b c d, anc⟩ :: os) fr st Q ↔ resQ (step (.buildSlice a b c d) (ev fr) st) (stepK E dst os fr Q) := (DL_step' rfl).trans stepW_res
@[simp] theorem DD_buildSlice {a b c d} {i : Nat} {acc : List (Nat × FP)} {dst : Option Nat} {anc : Nat} {os : List ROper} {fr st} {Q : Post} : DD E i acc (⟨dst, none, .buildSlice a b c d, anc⟩ :: os) fr st Q ↔ resQ (step (.buildSlice a b c d) (ev fr) st) (stepKD E i acc ⟨dst, none, .buildSlice a b c d, anc⟩ os fr st Q) := (DD_step' rfl).trans stepW_res
@[simp] theorem DL_load {a b} {dst : Option Nat} {anc : Nat} {os : List ROper} {fr st} {Q : Post} : DL E (⟨dst, none, .load a b, anc⟩ :: os) fr st Q ↔ resQ (step (.load a b) (ev fr) st) (stepK E dst os fr Q) := (DL_step' rfl).trans stepW_res
@[simp] theorem DD_load {a b} {i : Nat} {acc : List (Nat × FP)} {dst : Option Nat} {anc : Nat} {os : List ROper} {fr st} {Q : Post} : DD E i acc (⟨dst, none, .load a b, anc⟩ :: os) fr st Q ↔ resQ (step (.load a b) (ev fr) st) (stepKD E i acc ⟨dst, none, .load a b, anc⟩ os fr st Q) := (DD_step' rfl).trans stepW_res
@[simp] theorem DL_store {a b c} {dst : Option Nat} {anc : Nat} {os : List ROper} {fr st} {Q : Post} : DL E (⟨dst, none, .store a b c, anc⟩ :: os) fr st Q ↔ resQ (step (.store a b c) (ev fr) st) (stepK E dst os fr Q) := (DL_step' rfl).trans stepW_res
@[simp] theorem DD_store {a b c} {i : Nat} {acc : List (Nat × FP)} {dst : Option Nat} {anc : Nat} {os : List ROper} {fr st} {Q : Post} : DD E i acc (⟨dst, none, .store a b c, anc⟩ :: os) fr st Q ↔ resQ (step (.store a b c) (ev fr) st) (stepKD E i acc ⟨dst, none, .store a b c, anc⟩ os fr st Q) := (DD_step' rfl).trans stepW_res
@[simp] theorem DL_nilchk {a} {dst : Option Nat} {anc : Nat} {os : List ROper} {fr st} {Q : Post} : DL E (⟨dst, none, .nilchk a, anc⟩ :: os) fr st Q ↔ resQ (step (.nilchk a) (ev fr) st) (stepK E dst os fr Q) := (DL_step' rfl).trans stepW_res
@[simp] theorem DD_nilchk {a} {i : Nat} {acc : List (Nat × FP)} {dst : Option Nat} {anc : Nat} {os : List ROper} {fr st} {Q : Post} : DD E i acc (⟨dst, none, .nilchk a, anc⟩ :: os) fr st Q ↔ resQ (step (.nilchk a) (ev fr) st) (stepKD E i acc ⟨dst, none, .nilchk a, anc⟩ os fr st Q) := (DD_step' rfl).trans stepW_res
@[simp] theorem DL_bin {a b c} {dst : Option Nat} {anc : Nat} {os : List ROper} {fr st} {Q : Post} : DL E (⟨dst, none, .bin a b c, anc⟩ :: os) fr st Q ↔ resQ (step (.bin a b c) (ev fr) st) (stepK E dst os fr Q) := (DL_step' rfl).trans stepW_res
@[simp] theorem DD_bin {a b c} {i : Nat} {acc : List (Nat × FP)} {dst : Option Nat} {anc : Nat} {os : List ROper} {fr st} {Q : Post} : DD E i acc (⟨dst, none, .bin a b c, anc⟩ :: os) fr st Q ↔ resQ (step (.bin a b c) (ev fr) st) (stepKD E i acc ⟨dst, none, .bin a b c, anc⟩ os fr st Q) := (DD_step' rfl).trans stepW_res
@[simp] theorem DL_binB {a b c} {dst : Option Nat} {anc : Nat} {os : List ROper} {fr st} {Q : Post} : DL E (⟨dst, none, .binB a b c, anc⟩ :: os) fr st Q ↔ resQ (step (.binB a b c) (ev fr) st) (stepK E dst os fr Q) := (DL_step' rfl).trans stepW_res
@[simp] theorem DL_eqAgg {a b c d} {dst : Option Nat} {anc : Nat} {os : List ROper} {fr st} {Q : Post} : DL E (⟨dst, none, .eqAgg a b c d, anc⟩ :: os) fr st Q ↔ resQ (step (.eqAgg a b c d) (ev fr) st) (stepK E dst os fr Q) := (DL_step' rfl).trans stepW_res
@[simp] theorem DD_eqAgg {a b c d} {i : Nat} {acc : List (Nat × FP)} {dst : Option Nat} {anc : Nat} {os : List ROper} {fr st} {Q : Post} : DD E i acc (⟨dst, none, .eqAgg a b c d, anc⟩ :: os) fr st Q ↔ resQ (step (.eqAgg a b c d) (ev fr) st) (stepKD E i acc ⟨dst, none, .eqAgg a b c d, anc⟩ os fr st Q) := (DD_step' rfl).trans stepW_res
@[simp] theorem DL_un {a b} {dst : Option Nat} {anc : Nat} {os : List ROper} {fr st} {Q : Post} : DL E (⟨dst, none, .un a b, anc⟩ :: os) fr st Q ↔ resQ (step (.un a b) (ev fr) st) (stepK E dst os fr Q) := (DL_step' rfl).trans stepW_res
@[simp] theorem DD_un {a b} {i : Nat} {acc : List (Nat × FP)} {dst : Option Nat} {anc : Nat} {os : List ROper} {fr st} {Q : Post} : DD E i acc (⟨dst, none, .un a b, anc⟩ :: os) fr st Q ↔ resQ (step (.un a b) (ev fr) st) (stepKD E i acc ⟨dst, none, .un a b, anc⟩ os fr st Q) := (DD_step' rfl).trans stepW_res
@[simp] theorem DL_mkf {a b} {dst : Option Nat} {anc : Nat} {os : List ROper} {fr st} {Q : Post} : DL E (⟨dst, none, .mkf a b, anc⟩ :: os) fr st Q ↔ resQ (step (.mkf a b) (ev fr) st) (stepK E dst os fr Q) := (DL_step' rfl).trans stepW_res
@[simp] theorem DL_mkMap {dst : Option Nat} {anc : Nat} {os : List ROper} {fr st} {Q : Post} : DL E (⟨dst, none, .mkMap, anc⟩ :: os) fr st Q ↔ resQ (step (.mkMap) (ev fr) st) (stepK E dst os fr Q) := (DL_step' rfl).trans stepW_res
@[simp] theorem DL_mkSlice {a b c d f'} {dst : Option Nat} {anc : Nat} {os : List ROper} {fr st} {Q : Post} : DL E (⟨dst, none, .mkSlice a b c d f', anc⟩ :: os) fr st Q ↔ resQ (step (.mkSlice a b c d f') (ev fr) st) (stepK E dst os fr Q) := (DL_step' rfl).trans stepW_res
@[simp] theorem DL_faddr {a b} {dst : Option Nat} {anc : Nat} {os : List ROper} {fr st} {Q : Post} : DL E (⟨dst, none, .faddr a b, anc⟩ :: os) fr st Q ↔ resQ (step (.faddr a b) (ev fr) st) (stepK E dst os fr Q) := (DL_step' rfl).trans stepW_res
@[simp] theorem DD_faddr {a b} {i : Nat} {acc : List (Nat × FP)} {dst : Option Nat} {anc : Nat} {os : List ROper} {fr st} {Q : Post} : DD E i acc (⟨dst, none, .faddr a b, anc⟩ :: os) fr st Q ↔ resQ (step (.faddr a b) (ev fr) st) (stepKD E i acc ⟨dst, none, .faddr a b, anc⟩ os fr st Q) := (DD_step' rfl).trans stepW_res
@[simp] theorem DL_field {a b c} {dst : Option Nat} {anc : Nat} {os : List ROper} {fr st} {Q : Post} : DL E (⟨dst, none, .field a b c, anc⟩ :: os) fr st Q ↔ resQ (step (.field a b c) (ev fr) st) (stepK E dst os fr Q) := (DL_step' rfl).trans stepW_res
@[simp] theorem DL_iaddrS {a b c} {dst : Option Nat} {anc : Nat} {os : List ROper} {fr st} {Q : Post} : DL E (⟨dst, none, .iaddrS a b c, anc⟩ :: os) fr st Q ↔ resQ (step (.iaddrS a b c) (ev fr) st) (stepK E dst os fr Q) := (DL_step' rfl).trans stepW_res
@[simp] theorem DD_iaddrS {a b c} {i : Nat} {acc : List (Nat × FP)} {dst : Option Nat} {anc : Nat} {os : List ROper} {fr st} {Q : Post} : DD E i acc (⟨dst, none, .iaddrS a b c, anc⟩ :: os) fr st Q ↔ resQ (step (.iaddrS a b c) (ev fr) st) (stepKD E i acc ⟨dst, none, .iaddrS a b c, anc⟩ os fr st Q) := (DD_step' rfl).trans stepW_res
@[simp] theorem DL_iaddrA {a b c d} {dst : Option Nat} {anc : Nat} {os : List ROper} {fr st} {Q : Post} : DL E (⟨dst, none, .iaddrA a b c d, anc⟩ :: os) fr st Q ↔ resQ (step (.iaddrA a b c d) (ev fr) st) (stepK E dst os fr Q) := (DL_step' rfl).trans stepW_res
@[simp] theorem DD_iaddrA {a b c d} {i : Nat} {acc : List (Nat × FP)} {dst : Option Nat} {anc : Nat} {os : List ROper} {fr st} {Q : Post} : DD E i acc (⟨dst, none, .iaddrA a b c d, anc⟩ :: os) fr st Q ↔ resQ (step (.iaddrA a b c d) (ev fr) st) (stepKD E i acc ⟨dst, none, .iaddrA a b c d, anc⟩ os fr st Q) := (DD_step' rfl).trans stepW_res
@[simp] theorem DL_indexA {a b c d f'} {dst : Option Nat} {anc : Nat} {os : List ROper} {fr st} {Q : Post} : DL E (⟨dst, none, .indexA a b c d f', anc⟩ :: os) fr st Q ↔ resQ (step (.indexA a b c d f') (ev fr) st) (stepK E dst os fr Q) := (DL_step' rfl).trans stepW_res
@[simp] theorem DL_lookup {a b c d f' g} {dst : Option Nat} {anc : Nat} {os : List ROper} {fr st} {Q : Post} : DL E (⟨dst, none, .lookup a b c d f' g, anc⟩ :: os) fr st Q ↔ resQ (step (.lookup a b c d f' g) (ev fr) st) (stepK E dst os fr Q) := (DL_step' rfl).trans stepW_res
@[simp] theorem DD_lookup {a b c d f' g} {i : Nat} {acc : List (Nat × FP)} {dst : Option Nat} {anc : Nat} {os : List ROper} {fr st} {Q : Post} : DD E i acc (⟨dst, none, .lookup a b c d f' g, anc⟩ :: os) fr st Q ↔ resQ (step (.lookup a b c d f' g) (ev fr) st) (stepKD E i acc ⟨dst, none, .lookup a b c d f' g, anc⟩ os fr st Q) := (DD_step' rfl).trans stepW_res
@[simp] theorem DL_mapUpd {a b c d f'} {dst : Option Nat} {anc : Nat} {os : List ROper} {fr st} {Q : Post} : DL E (⟨dst, none, .mapUpd a b c d f', anc⟩ :: os) fr st Q ↔ resQ (step (.mapUpd a b c d f') (ev fr) st) (stepK E dst os fr Q) := (DL_step' rfl).trans stepW_res
@[simp] theorem DD_mapUpd {a b c d f'} {i : Nat} {acc : List (Nat × FP)} {dst : Option Nat} {anc : Nat} {os : List ROper} {fr st} {Q : Post} : DD E i acc (⟨dst, none, .mapUpd a b c d f', anc⟩ :: os) fr st Q ↔ resQ (step (.mapUpd a b c d f') (ev fr) st) (stepKD E i acc ⟨dst, none, .mapUpd a b c d f', anc⟩ os fr st Q) := (DD_step' rfl).trans stepW_res
@[simp] theorem DL_extract {a b} {dst : Option Nat} {anc : Nat} {os : List ROper} {fr st} {Q : Post} : DL E (⟨dst, none, .extract a b, anc⟩ :: os) fr st Q ↔ resQ (step (.extract a b) (ev fr) st) (stepK E dst os fr Q) := (DL_step' rfl).trans stepW_res
@[simp] theorem DD_extract {a b} {i : Nat} {acc : List (Nat × FP)} {dst : Option Nat} {anc : Nat} {os : List ROper} {fr st} {Q : Post} : DD E i acc (⟨dst, none, .extract a b, anc⟩ :: os) fr st Q ↔ resQ (step (.extract a b) (ev fr) st) (stepKD E i acc ⟨dst, none, .extract a b, anc⟩ os fr st Q) := (DD_step' rfl).trans stepW_res
@[simp] theorem DL_len {a b} {dst : Option Nat} {anc : Nat} {os : List ROper} {fr st} {Q : Post} : DL E (⟨dst, none, .len a b, anc⟩ :: os) fr st Q ↔ resQ (step (.len a b) (ev fr) st) (stepK E dst os fr Q) := (DL_step' rfl).trans stepW_res
@[simp] theorem DD_len {a b} {i : Nat} {acc : List (Nat × FP)} {dst : Option Nat} {anc : Nat} {os : List ROper} {fr st} {Q : Post} : DD E i acc (⟨dst, none, .len a b, anc⟩ :: os) fr st Q ↔ resQ (step (.len a b) (ev fr) st) (stepKD E i acc ⟨dst, none, .len a b, anc⟩ os fr st Q) := (DD_step' rfl).trans stepW_res
@[simp] theorem DL_append {a b c d f'} {dst : Option Nat} {anc : Nat} {os : List ROper} {fr st} {Q : Post} : DL E (⟨dst, none, .append a b c d f', anc⟩ :: os) fr st Q ↔ resQ (step (.append a b c d f') (ev fr) st) (stepK E dst os fr Q) := (DL_step' rfl).trans stepW_res
@[simp] theorem DD_append {a b c d f'} {i : Nat} {acc : List (Nat × FP)} {dst : Option Nat} {anc : Nat} {os : List ROper} {fr st} {Q : Post} : DD E i acc (⟨dst, none, .append a b c d f', anc⟩ :: os) fr st Q ↔ resQ (step (.append a b c d f') (ev fr) st) (stepKD E i acc ⟨dst, none, .append a b c d f', anc⟩ os fr st Q) := (DD_step' rfl).trans stepW_res
@[simp] theorem DL_maxmin {a b} {dst : Option Nat} {anc : Nat} {os : List ROper} {fr st} {Q : Post} : DL E (⟨dst, none, .maxmin a b, anc⟩ :: os) fr st Q ↔ resQ (step (.maxmin a b) (ev fr) st) (stepK E dst os fr Q) := (DL_step' rfl).trans stepW_res
@[simp] theorem step_mv {x} : step (.mv x) e st = some (.val (e x), st) := rfl
def pickV (c a b : Value) : Option Value := match c with | .bool t => some (if t then a else b) | _ => none
@[simp] theorem pickV_true {a b} : pickV (.bool true) a b = some a := rfl
@[simp] theorem pickV_false {a b} : pickV (.bool false) a b = some b := rfl
def aggO (x : Option (List Value)) : Option Value := x.map fun l => .agg l.toArray
@[simp] theorem aggO_some {l : List Value} : aggO (some l) = some (.agg l.toArray) := rfl
@[simp] theorem step_pick {c a b} : step (.pick c a b) e st = valS (pickV (e c) (e a) (e b)) st := by
 simp only [step, pickV]; (repeat' split) <;> simp_all [valS, aggO]
@[simp] theorem step_new {elem zero} : step (.new elem zero) e st = some (.val (.pointer (some ⟨st.h.length, 0, none⟩)), { st with h := st.h ++ [.cells zero elem (some 0)] }) := rfl
@[simp] theorem step_box {elem x} : step (.box elem x) e st = some (.val (.pointer (some ⟨st.h.length, 0, none⟩)), { st with h := st.h ++ [.cells (e x).cells.toList elem (some 0)] }) := rfl
@[simp] theorem step_build {zero parts} : step (.build zero parts) e st = valS (aggO (fillL zero (parts.map fun p => (p.1, p.2.1, e p.2.2)))) st := rfl
def newSl (elem : TypeId) (len : Nat) (st : St) (x : Option (List Value)) : Option (Res × St) := x.map fun l => (.val (.slice (some ⟨st.h.length, 0, none⟩) len len), { st with h := st.h ++ [.cells l elem (some 0)] })
@[simp] theorem newSl_some {elem len} {l : List Value} : newSl elem len st (some l) = some (.val (.slice (some ⟨st.h.length, 0, none⟩) len len), { st with h := st.h ++ [.cells l elem (some 0)] }) := rfl
@[simp] theorem step_buildSlice {elem cells len parts} : step (.buildSlice elem cells len parts) e st = if len = 0 then some (.val emptyS, st) else newSl elem len st (fillL cells (parts.map fun p => (p.1, p.2.1, e p.2.2))) := by
 simp only [step]
 split
 ·rfl
 ·cases fillL cells (parts.map fun p => (p.1, p.2.1, e p.2.2)) <;> rfl
def loadV (h : List O) (v : Value) : Option Value := match v with | .pointer (some ⟨b, i, none⟩) => rd h b i | _ => none
@[simp] theorem loadV_ptr {h b i} : loadV h (.pointer (some ⟨b, i, none⟩)) = rd h b i := rfl
def loadN (h : List O) (n : Nat) (v : Value) : Option (List Value) := match v with | .pointer (some ⟨b, i, none⟩) => rdN h b i n | _ => none
@[simp] theorem loadN_ptr {h b i n} : loadN h n (.pointer (some ⟨b, i, none⟩)) = rdN h b i n := rfl
@[simp] theorem step_load {a} : step (.load none a) e st = valS (loadV st.h (e a)) st := by
 simp only [step, loadV]; (repeat' split) <;> simp_all [valS, aggO]
@[simp] theorem step_loadN {n a} : step (.load (some n) a) e st = valS (aggO (loadN st.h n (e a))) st := by
 simp only [step, loadN]; (repeat' split) <;> simp_all [valS, aggO]
def storeS (st : St) (n : Nat) (a x : Value) : Option (Res × St) := match a with
 | .pointer (some ⟨b, i, none⟩) => if x.cells.toList.length = n then (wrN st.h b i x.cells.toList).map fun h => (.val undef, { st with h, fl := min st.fl b }) else none
 | _ => none
def wroteS (st : St) (b : Nat) (x : Option (List O)) : Option (Res × St) := x.map fun h => (.val undef, { st with h, fl := min st.fl b })
@[simp] theorem wroteS_some {b h} : wroteS st b (some h) = some (.val undef, { st with h, fl := min st.fl b }) := rfl
@[simp] theorem storeS_ptr {n b i x} : storeS st n (.pointer (some ⟨b, i, none⟩)) x = if x.cells.toList.length = n then wroteS st b (wrN st.h b i x.cells.toList) else none := rfl
@[simp] theorem step_store {n n' x} : step (.store n n' x) e st = storeS st n (e n') (e x) := by
 simp only [step, storeS]
 generalize e n' = va
 cases va <;> try rfl
 rename_i a'
 rcases a' with _ | ⟨b, o, _ | s⟩ <;> try rfl
 simp only []
 split
 ·cases wrN st.h b o (e x).cells.toList <;> rfl
 ·rfl
def nilchkV (v : Value) : Option Value := match v with | .pointer (some a) => some (.pointer (some a)) | _ => none
@[simp] theorem nilchkV_ptr {a} : nilchkV (.pointer (some a)) = some (.pointer (some a)) := rfl
@[simp] theorem step_nilchk {x} : step (.nilchk x) e st = valS (nilchkV (e x)) st := by simp only [step, nilchkV]; (repeat' split) <;> simp_all [valS, aggO]
@[simp] theorem step_bin {op x y} : step (.bin op x y) e st = valS (binV op (e x) (e y)) st := rfl
@[simp] theorem step_binB {op x y} : step (.binB op x y) e st = valS (binBV op (e x) (e y)) st := rfl
@[simp] theorem step_un {op x} : step (.un op x) e st = valS (unV op (e x)) st := rfl
def eqNilV (kind : Nat) (neg : Bool) (v : Value) : Option Value := (isNil kind v).map fun b => .bool (neg != b)
@[simp] theorem eqNil_ptr {neg a} : eqNilV 0 neg (.pointer a) = some (.bool (neg != a.isNone)) := rfl
@[simp] theorem eqNil_slice {neg a n c} : eqNilV 1 neg (.slice a n c) = some (.bool (neg != a.isNone)) := rfl
@[simp] theorem eqNil_map {neg a} : eqNilV 2 neg (.map a) = some (.bool (neg != a.isNone)) := rfl
@[simp] theorem step_eqNil {kind neg x} : step (.eqNil kind neg x) e st = valS (eqNilV kind neg (e x)) st := rfl
def eqAggV (neg : Bool) (a b : Option (List Value)) : Option Value := match a, b with | some a, some b => some (.bool (neg != eqCells a b)) | _, _ => none
@[simp] theorem eqAggV_some {neg a b} : eqAggV neg (some a) (some b) = some (.bool (neg != eqCells a b)) := rfl
@[simp] theorem step_eqAgg {shape neg x y} : step (.eqAgg shape neg x y) e st = valS (eqAggV neg (keyCells shape true (e x)) (keyCells shape true (e y))) st := by
 simp only [step]
 cases keyCells shape true (e x) <;> cases keyCells shape true (e y) <;> rfl
def convV (k : IntKind) (v : Value) : Option Value := match v with | .int _ n => some (.int k (k.wrap n)) | _ => none
@[simp] theorem convV_int {k k' n} : convV k (.int k' n) = some (.int k (k.wrap n)) := rfl
@[simp] theorem step_mkIface {t x} : step (.mkIface t x) e st = some (.val (.iface t (e x)), st) := rfl
@[simp] theorem step_mkf {f cap} : step (.mkf f cap) e st = some (.val (.func (.func f) #[] (cap.map e).toArray), st) := rfl
@[simp] theorem step_mkMap : step .mkMap e st = some (.val (.map (some st.h.length)), { st with h := st.h ++ [.map [] 0] }) := rfl
def mkSl (elem : TypeId) (zero : List Value) (bytes : Nat) (len cap : Value) (st : St) : Option (Res × St) := match len, cap with
 | .int .i64 l, .int .i64 c => if 0 ≤ l ∧ l ≤ c ∧ c * bytes ≤ 2 ^ 47 ∧ c < 2 ^ 62 then some (.val (.slice (some ⟨st.h.length, 0, none⟩) l.toNat c.toNat), { st with h := st.h ++ [.cells (rep c.toNat zero) elem (some 0)] }) else none
 | _, _ => none
@[simp] theorem mkSl_int {elem zero bytes l c} : mkSl elem zero bytes (.int .i64 l) (.int .i64 c) st = if 0 ≤ l ∧ l ≤ c ∧ c * bytes ≤ 2 ^ 47 ∧ c < 2 ^ 62 then some (.val (.slice (some ⟨st.h.length, 0, none⟩) l.toNat c.toNat), { st with h := st.h ++ [.cells (rep c.toNat zero) elem (some 0)] }) else none := rfl
@[simp] theorem step_mkSlice {elem zero bytes len cap} : step (.mkSlice elem zero bytes len cap) e st = mkSl elem zero bytes (e len) (e cap) st := rfl
@[simp] theorem step_slice {size x lo hi mx} : step (.slice size x lo hi mx) e st = valS (sliceV st.h size (e x) (lo.map e) (hi.map e) (mx.map e)) st := rfl
def faddrV (off : Nat) (v : Value) : Option Value := match v with | .pointer (some ⟨b, i, none⟩) => some (.pointer (some ⟨b, i + off, none⟩)) | _ => none
@[simp] theorem faddrV_ptr {off b i} : faddrV off (.pointer (some ⟨b, i, none⟩)) = some (.pointer (some ⟨b, i + off, none⟩)) := rfl
@[simp] theorem step_faddr {off x} : step (.faddr off x) e st = valS (faddrV off (e x)) st := by simp only [step, faddrV]; (repeat' split) <;> simp_all [valS, aggO]
def fieldV (off : Nat) (n : Option Nat) (v : Value) : Option Value := match v with | .agg cs => partL cs.toList off n | _ => none
@[simp] theorem fieldV_agg {off n cs} : fieldV off n (.agg cs) = partL cs.toList off n := rfl
@[simp] theorem step_field {off n x} : step (.field off n x) e st = valS (fieldV off n (e x)) st := by simp only [step, fieldV]; (repeat' split) <;> simp_all [valS, aggO]
def iaddrV (size : Nat) (x i : Value) : Option Value := match x, i with
 | .slice (some ⟨b, o, none⟩) n _, .int _ j => if 0 ≤ j ∧ j < n then some (.pointer (some ⟨b, o + j.toNat * size, none⟩)) else none
 | _, _ => none
@[simp] theorem iaddrV_slice {size b o n c k j} : iaddrV size (.slice (some ⟨b, o, none⟩) n c) (.int k j) = if 0 ≤ j ∧ j < n then some (.pointer (some ⟨b, o + j.toNat * size, none⟩)) else none := rfl
@[simp] theorem step_iaddrS {size x i} : step (.iaddrS size x i) e st = valS (iaddrV size (e x) (e i)) st := by
 simp only [step, iaddrV]
 generalize e x = vx
 generalize e i = vi
 cases vx <;> try rfl
 rename_i a n c
 rcases a with _ | ⟨b, o, _ | s⟩ <;> try rfl
 cases vi <;> try rfl
 simp only []
 split <;> rfl
def iaddrAV (len size : Nat) (x i : Value) : Option Value := match x, i with
 | .pointer (some ⟨b, o, none⟩), .int _ j => if 0 ≤ j ∧ j < len then some (.pointer (some ⟨b, o + j.toNat * size, none⟩)) else none
 | _, _ => none
@[simp] theorem iaddrAV_ptr {len size b o k j} : iaddrAV len size (.pointer (some ⟨b, o, none⟩)) (.int k j) = if 0 ≤ j ∧ j < len then some (.pointer (some ⟨b, o + j.toNat * size, none⟩)) else none := rfl
@[simp] theorem step_iaddrA {len size x i} : step (.iaddrA len size x i) e st = valS (iaddrAV len size (e x) (e i)) st := by
 simp only [step, iaddrAV]
 generalize e x = vx
 generalize e i = vi
 cases vx <;> try rfl
 rename_i a
 rcases a with _ | ⟨b, o, _ | s⟩ <;> try rfl
 cases vi <;> try rfl
 simp only []
 split <;> rfl
def indexAV (len size : Nat) (n : Option Nat) (x i : Value) : Option Value := match x, i with
 | .agg cs, .int _ j => if 0 ≤ j ∧ j < len then partL cs.toList (j.toNat * size) n else none
 | _, _ => none
@[simp] theorem indexAV_agg {len size n cs k j} : indexAV len size n (.agg cs) (.int k j) = if 0 ≤ j ∧ j < len then partL cs.toList (j.toNat * size) n else none := rfl
@[simp] theorem step_indexA {len size n x i} : step (.indexA len size n x i) e st = valS (indexAV len size n (e x) (e i)) st := by
 simp only [step, indexAV]
 generalize e x = vx
 generalize e i = vi
 cases vx <;> try rfl
 cases vi <;> try rfl
 simp only []
 split <;> rfl
def extractV (v : Value) (i : Nat) : Option Value := match v with | .tuple vs => vs.toList[i]? | _ => none
@[simp] theorem extractV_tuple {vs : Array Value} {i} : extractV (.tuple vs) i = vs.toList[i]? := rfl
@[simp] theorem step_extract {x i} : step (.extract x i) e st = valS (extractV (e x) i) st := by simp only [step, extractV]; (repeat' split) <;> simp_all [valS, aggO]
def lenV (h : List O) (kind : Nat) (v : Value) : Option Value := match kind, v with
 | 0, .slice _ n _ => some (.int .i64 n)
 | 1, .string s => some (.int .i64 s.size)
 | 2, .map none => some (.int .i64 0)
 | 2, .map (some b) => match h[b]? with
  | some (.map es _) => some (.int .i64 es.length)
  | _ => none
 | _, _ => none
@[simp] theorem lenV_slice {h a n c} : lenV h 0 (.slice a n c) = some (.int .i64 n) := rfl
@[simp] theorem step_len {kind x} : step (.len kind x) e st = valS (lenV st.h kind (e x)) st := by
 simp only [step]
 generalize e x = vx
 unfold lenV
 rcases kind with _ | _ | _ | k <;> cases vx <;> try rfl
 rename_i a
 cases a with
 | none => rfl
 | some b =>
  simp only []
  cases st.h[b]? with
  | none => rfl
  | some o => cases o <;> rfl
@[simp] theorem step_append {elem size bytes s x} : step (.append elem size bytes s x) e st = memS (appendV elem size bytes (e s) (e x) st) := rfl
@[simp] theorem step_appendZ {elem size bytes zero s x} : step (.appendZ elem size bytes zero s x) e st = memS (appendZV elem size bytes zero (e s) (e x) st) := rfl
@[simp] theorem step_maxmin {isMax xs} : step (.maxmin isMax xs) e st = valS (maxminV isMax (xs.map e)) st := rfl
def panS (v : Value) (st : St) : Option (Res × St) := match v with | .iface t v => some (.pan (.iface t v), st) | _ => none
@[simp] theorem panS_iface {t v} : panS (.iface t v) st = some (.pan (.iface t v), st) := rfl
@[simp] theorem cells_agg {cs : Array Value} : (Value.agg cs).cells = cs := rfl
@[simp] theorem cells_int {k n} : (Value.int k n).cells = #[.int k n] := rfl
@[simp] theorem cells_bool {b} : (Value.bool b).cells = #[.bool b] := rfl
@[simp] theorem cells_slice {a n c} : (Value.slice a n c).cells = #[.slice a n c] := rfl
@[simp] theorem cells_ptr {a} : (Value.pointer a).cells = #[.pointer a] := rfl
@[simp] theorem cells_map {a} : (Value.map a).cells = #[.map a] := rfl
@[simp] theorem cast_eq (a b : Nat) : ((a : Int) = (b : Int)) = (a = b) := propext (by omega)
@[simp] theorem binV_add {k a b} : binV .add (.int k a) (.int k b) = some (.int k (k.wrap (a + b))) := by simp [binV, intBin]
@[simp] theorem binV_sub {k a b} : binV .sub (.int k a) (.int k b) = some (.int k (k.wrap (a - b))) := by simp [binV, intBin]
@[simp] theorem binV_mul {k a b} : binV .mul (.int k a) (.int k b) = some (.int k (k.wrap (a * b))) := by simp [binV, intBin]
@[simp] theorem binV_eql {k a b} : binV .eql (.int k a) (.int k b) = some (.bool (decide (a = b))) := by simp [binV, intBin]; rfl
@[simp] theorem binV_neq {k a b} : binV .neq (.int k a) (.int k b) = some (.bool (!decide (a = b))) := by simp [binV, intBin]; rfl
@[simp] theorem binV_lss {k a b} : binV .lss (.int k a) (.int k b) = some (.bool (decide (a < b))) := by simp [binV, intBin]
@[simp] theorem binV_leq {k a b} : binV .leq (.int k a) (.int k b) = some (.bool (decide (a ≤ b))) := by simp [binV, intBin]
@[simp] theorem binV_gtr {k a b} : binV .gtr (.int k a) (.int k b) = some (.bool (decide (b < a))) := by simp [binV, intBin]
@[simp] theorem binV_geq {k a b} : binV .geq (.int k a) (.int k b) = some (.bool (decide (b ≤ a))) := by simp [binV, intBin]
theorem binV_quo {k a b} (hb : b ≠ 0) : binV .quo (.int k a) (.int k b) = some (.int k (k.wrap (a.tdiv b))) := by simp [binV, intBin, hb]
theorem binV_rem {k a b} (hb : b ≠ 0) : binV .rem (.int k a) (.int k b) = some (.int k (a.tmod b)) := by simp [binV, intBin, hb]
@[simp] theorem unV_neg {k a} : unV .neg (.int k a) = some (.int k (k.wrap (0 - a))) := rfl
@[simp] theorem unV_not {b} : unV .not (.bool b) = some (.bool !b) := rfl
@[simp] theorem binBV_eql {a b} : binBV .eql (.bool a) (.bool b) = some (.bool (a == b)) := rfl
@[simp] theorem binBV_neq {a b} : binBV .neq (.bool a) (.bool b) = some (.bool (a != b)) := rfl
@[simp] theorem maxmin2_nil {m x} : maxmin2 m x [] = some x := rfl
@[simp] theorem maxminV_cons {m x l} : maxminV m (x :: l) = maxmin2 m x l := rfl
@[simp] theorem maxmin2_max {k k' a b l} : maxmin2 true (.int k a) (.int k' b :: l) = maxmin2 true (.int k (max a b)) l := by
 simp only [maxmin2, if_true]
 congr 2
 omega
@[simp] theorem maxmin2_min {k k' a b l} : maxmin2 false (.int k a) (.int k' b :: l) = maxmin2 false (.int k (min a b)) l := by
 simp only [maxmin2]
 congr 2
 simp only [Bool.false_eq_true, if_false]
 omega
abbrev I64 (x : Int) : Prop := -9223372036854775808 ≤ x ∧ x ≤ 9223372036854775807
theorem w64_eq (x : Int) : IntKind.i64.wrap x = (x + 9223372036854775808) % 18446744073709551616 - 9223372036854775808 := by
 simp only [IntKind.wrap, IntKind.signed, IntKind.bits]
 simp
 try omega
theorem w64_id {x : Int} (h1 : -9223372036854775808 ≤ x) (h2 : x ≤ 9223372036854775807) : IntKind.i64.wrap x = x := by
 have := w64_eq x
 omega
@[simp] theorem rd_append_right (h l : List O) (k i : Nat) : rd (h ++ l) (h.length + k) i = rd l k i := by simp [rd, List.getElem?_append_right]
@[simp] theorem rd_append_right0 (h l : List O) (i : Nat) : rd (h ++ l) h.length i = rd l 0 i := by simp [rd, List.getElem?_append_right]
@[simp] theorem rdN_append_right (h l : List O) (k i n : Nat) : rdN (h ++ l) (h.length + k) i n = rdN l k i n := by simp [rdN, List.getElem?_append_right]
@[simp] theorem rdN_append_right0 (h l : List O) (i n : Nat) : rdN (h ++ l) h.length i n = rdN l 0 i n := by simp [rdN, List.getElem?_append_right]
@[simp] theorem rd_cells (c : List Value) (el : TypeId) (own : Option Nat) (l : List O) (i : Nat) : rd (.cells c el own :: l) 0 i = c[i]? := rfl
@[simp] theorem rd_succ (o : O) (l : List O) (k i : Nat) : rd (o :: l) (k + 1) i = rd l k i := by simp [rd]
@[simp] theorem rdN_cells (c : List Value) (el : TypeId) (own : Option Nat) (l : List O) (i n : Nat) : rdN (.cells c el own :: l) 0 i n = if i + n ≤ c.length then some ((c.drop i).take n) else none := rfl
@[simp] theorem rdN_succ (o : O) (l : List O) (k i n : Nat) : rdN (o :: l) (k + 1) i n = rdN l k i n := by simp [rdN]
theorem rd_lt {h : List O} {b i : Nat} {v : Value} (hr : rd h b i = some v) : b < h.length := by
 unfold rd at hr
 split at hr
 ·rename_i c _ _ hb; exact (List.getElem?_eq_some_iff.1 hb).1
 ·cases hr
theorem rd_append {h : List O} {b i : Nat} {v : Value} (hr : rd h b i = some v) (l : List O) : rd (h ++ l) b i = some v := by
 have := rd_lt hr
 unfold rd at hr ⊢
 rw [List.getElem?_append_left this]; exact hr
theorem rdN_lt {h : List O} {b i n : Nat} {v : List Value} (hr : rdN h b i n = some v) : b < h.length := by
 unfold rdN at hr
 split at hr
 ·rename_i c _ _ hb; exact (List.getElem?_eq_some_iff.1 hb).1
 ·cases hr
theorem rdN_append {h : List O} {b i n : Nat} {v : List Value} (hr : rdN h b i n = some v) (l : List O) : rdN (h ++ l) b i n = some v := by
 have := rdN_lt hr
 unfold rdN at hr ⊢
 rw [List.getElem?_append_left this]; exact hr
def nth (xs : List Int) (i : Nat) : Int := xs.getD i 0
theorem nth_eq {xs : List Int} {i : Nat} (hi : i < xs.length) : nth xs i = xs[i] := by simp [nth, hi]
def nthR (A : List (List Int)) (i : Nat) : List Int := A.getD i []
def sumN (f : Nat → Int) : Nat → Int
 | 0 => 0
 | n + 1 => sumN f n + f n
theorem sumN_congr {f g : Nat → Int} {n : Nat} (h : ∀ i, i < n → f i = g i) : sumN f n = sumN g n := by
 induction n with
 | zero => rfl
 | succ n ih => simp only [sumN]; rw [ih fun i hi => h i (by omega), h n (by omega)]
def Ints (h : List O) (v : Value) (xs : List Int) : Prop :=
 ∃ a b o c, v = .slice a xs.length c ∧ (0 < xs.length → a = some ⟨b, o, none⟩) ∧ (∀ i, i < xs.length → rd h b (o + i) = some (.int .i64 (nth xs i))) ∧ (∀ i, I64 (nth xs i)) ∧ xs.length < 2 ^ 62
def Mat (h : List O) (v : Value) (A : List (List Int)) : Prop :=
 ∃ a b o c, ∃ vs : Nat → Value, v = .slice a A.length c ∧ (0 < A.length → a = some ⟨b, o, none⟩) ∧ (∀ i, i < A.length → rd h b (o + i) = some (vs i) ∧ Ints h (vs i) (nthR A i)) ∧ A.length < 2 ^ 62
theorem Ints.mono {h : List O} {v : Value} {xs : List Int} (hc : Ints h v xs) (l : List O) : Ints (h ++ l) v xs := by
 obtain ⟨a, b, o, c, h1, h2, h3, h4⟩ := hc
 exact ⟨a, b, o, c, h1, h2, fun i hi => rd_append (h3 i hi) l, h4⟩
theorem Mat.mono {h : List O} {v : Value} {A : List (List Int)} (hc : Mat h v A) (l : List O) : Mat (h ++ l) v A := by
 obtain ⟨a, b, o, c, vs, h1, h2, h3, h4⟩ := hc
 exact ⟨a, b, o, c, vs, h1, h2, fun i hi => ⟨rd_append (h3 i hi).1 l, (h3 i hi).2.mono l⟩, h4⟩
theorem Ints.nil {h : List O} : Ints h (.slice none 0 0) [] := ⟨none, 0, 0, 0, rfl, fun h => absurd h (by simp), fun i hi => absurd hi (by simp), fun i => by simp [nth, I64], by simp⟩
@[simp] theorem resV_tmp2 {fr : Fr} {h : List O} {t u : Nat} : resV fr h [.tmp t, .tmp u] = some (.tuple #[get fr t, get fr u]) := rfl
@[simp] theorem resV_tmp3 {fr : Fr} {h : List O} {t u v : Nat} : resV fr h [.tmp t, .tmp u, .tmp v] = some (.tuple #[get fr t, get fr u, get fr v]) := rfl
@[simp] theorem resV_nil {fr : Fr} {h : List O} : resV fr h [] = some (.tuple #[]) := rfl
@[simp] theorem resV_one {fr : Fr} {h : List O} {r : RRes} : resV fr h [r] = resOne fr h r := by
 simp only [resV, resAll]
 cases resOne fr h r <;> rfl
attribute [simp] resOne
@[simp] theorem back_int {h h' : List O} {k : IntKind} {n : Int} : back ⟨h, h.length⟩ (.ret (.int k n)) ⟨h', h.length⟩ = (.ret (.int k n), ⟨h, h.length⟩) := by
 simp [back, Out.scalar, scalar, flat1, flat]
@[simp] theorem back_bool {h h' : List O} {b : Bool} : back ⟨h, h.length⟩ (.ret (.bool b)) ⟨h', h.length⟩ = (.ret (.bool b), ⟨h, h.length⟩) := by
 simp [back, Out.scalar, scalar, flat1, flat]
theorem back_scalar {h : List O} {st' : St} {out : Out} (hs : out.scalar = true) (hfl : h.length ≤ st'.fl) : back ⟨h, h.length⟩ out st' = (out, ⟨h, h.length⟩) := by
 simp [back, hs, hfl]
def quietOp : ROp → Bool
 | .call _ _ | .store _ _ _ | .mapUpd _ _ _ _ _ | .mapEntry _ _ _ _ _ | .entryStore _ _ _ | .delete _ _ _ _ | .next _ | .append _ _ _ _ _ | .appendZ _ _ _ _ _ _ | .copy _ _ _ => false
 | _ => true
@[simp] theorem quietOp_mv {a} : quietOp (.mv a) = true := rfl
@[simp] theorem quietOp_pick {a b c} : quietOp (.pick a b c) = true := rfl
@[simp] theorem quietOp_new {a b} : quietOp (.new a b) = true := rfl
@[simp] theorem quietOp_box {a b} : quietOp (.box a b) = true := rfl
@[simp] theorem quietOp_build {a b} : quietOp (.build a b) = true := rfl
@[simp] theorem quietOp_buildSlice {a b c d} : quietOp (.buildSlice a b c d) = true := rfl
@[simp] theorem quietOp_load {a b} : quietOp (.load a b) = true := rfl
@[simp] theorem quietOp_store {a b c} : quietOp (.store a b c) = false := rfl
@[simp] theorem quietOp_nilchk {a} : quietOp (.nilchk a) = true := rfl
@[simp] theorem quietOp_bin {a b c} : quietOp (.bin a b c) = true := rfl
@[simp] theorem quietOp_binB {a b c} : quietOp (.binB a b c) = true := rfl
@[simp] theorem quietOp_eqNil {a b c} : quietOp (.eqNil a b c) = true := rfl
@[simp] theorem quietOp_eqAgg {a b c d} : quietOp (.eqAgg a b c d) = true := rfl
@[simp] theorem quietOp_un {a b} : quietOp (.un a b) = true := rfl
@[simp] theorem quietOp_conv {a b} : quietOp (.conv a b) = true := rfl
@[simp] theorem quietOp_mkIface {a b} : quietOp (.mkIface a b) = true := rfl
@[simp] theorem quietOp_mkf {a b} : quietOp (.mkf a b) = true := rfl
@[simp] theorem quietOp_mkMap : quietOp (.mkMap) = true := rfl
@[simp] theorem quietOp_mkSlice {a b c d f'} : quietOp (.mkSlice a b c d f') = true := rfl
@[simp] theorem quietOp_slice {a b c d f'} : quietOp (.slice a b c d f') = true := rfl
@[simp] theorem quietOp_faddr {a b} : quietOp (.faddr a b) = true := rfl
@[simp] theorem quietOp_field {a b c} : quietOp (.field a b c) = true := rfl
@[simp] theorem quietOp_iaddrS {a b c} : quietOp (.iaddrS a b c) = true := rfl
@[simp] theorem quietOp_iaddrA {a b c d} : quietOp (.iaddrA a b c d) = true := rfl
@[simp] theorem quietOp_indexA {a b c d f'} : quietOp (.indexA a b c d f') = true := rfl
@[simp] theorem quietOp_lookup {a b c d f' g} : quietOp (.lookup a b c d f' g) = true := rfl
@[simp] theorem quietOp_mapUpd {a b c d f'} : quietOp (.mapUpd a b c d f') = false := rfl
@[simp] theorem quietOp_mapEntry {a b c d f'} : quietOp (.mapEntry a b c d f') = false := rfl
@[simp] theorem quietOp_entryStore {a b c} : quietOp (.entryStore a b c) = false := rfl
@[simp] theorem quietOp_delete {a b c d} : quietOp (.delete a b c d) = false := rfl
@[simp] theorem quietOp_range {a} : quietOp (.range a) = true := rfl
@[simp] theorem quietOp_next {a} : quietOp (.next a) = false := rfl
@[simp] theorem quietOp_entry {a} : quietOp (.entry a) = true := rfl
@[simp] theorem quietOp_assert {a b c} : quietOp (.assert a b c) = true := rfl
@[simp] theorem quietOp_extract {a b} : quietOp (.extract a b) = true := rfl
@[simp] theorem quietOp_len {a b} : quietOp (.len a b) = true := rfl
@[simp] theorem quietOp_append {a b c d f'} : quietOp (.append a b c d f') = false := rfl
@[simp] theorem quietOp_appendZ {a b c d f' g} : quietOp (.appendZ a b c d f' g) = false := rfl
@[simp] theorem quietOp_copy {a b c} : quietOp (.copy a b c) = false := rfl
@[simp] theorem quietOp_maxmin {a b} : quietOp (.maxmin a b) = true := rfl
@[simp] theorem quietOp_panic {a} : quietOp (.panic a) = true := rfl
@[simp] theorem quietOp_call {a b} : quietOp (.call a b) = false := rfl
@[simp] theorem fpOf_mv {a} {e : Operand → Value} {st : St} : fpOf (.mv a) e st = {} := rfl
@[simp] theorem fpOf_pick {a b c} {e : Operand → Value} {st : St} : fpOf (.pick a b c) e st = {} := rfl
@[simp] theorem fpOf_new {a b} {e : Operand → Value} {st : St} : fpOf (.new a b) e st = {} := rfl
@[simp] theorem fpOf_box {a b} {e : Operand → Value} {st : St} : fpOf (.box a b) e st = {} := rfl
@[simp] theorem fpOf_build {a b} {e : Operand → Value} {st : St} : fpOf (.build a b) e st = {} := rfl
@[simp] theorem fpOf_buildSlice {a b c d} {e : Operand → Value} {st : St} : fpOf (.buildSlice a b c d) e st = {} := rfl
@[simp] theorem fpOf_load {a b} {e : Operand → Value} {st : St} : fpOf (.load a b) e st = { r := blk (e b) } := rfl
@[simp] theorem fpOf_store {a b c} {e : Operand → Value} {st : St} : fpOf (.store a b c) e st = { w := blk (e b) } := rfl
@[simp] theorem fpOf_nilchk {a} {e : Operand → Value} {st : St} : fpOf (.nilchk a) e st = {} := rfl
@[simp] theorem fpOf_bin {a b c} {e : Operand → Value} {st : St} : fpOf (.bin a b c) e st = {} := rfl
@[simp] theorem fpOf_binB {a b c} {e : Operand → Value} {st : St} : fpOf (.binB a b c) e st = {} := rfl
@[simp] theorem fpOf_eqNil {a b c} {e : Operand → Value} {st : St} : fpOf (.eqNil a b c) e st = {} := rfl
@[simp] theorem fpOf_eqAgg {a b c d} {e : Operand → Value} {st : St} : fpOf (.eqAgg a b c d) e st = {} := rfl
@[simp] theorem fpOf_un {a b} {e : Operand → Value} {st : St} : fpOf (.un a b) e st = {} := rfl
@[simp] theorem fpOf_conv {a b} {e : Operand → Value} {st : St} : fpOf (.conv a b) e st = {} := rfl
@[simp] theorem fpOf_mkIface {a b} {e : Operand → Value} {st : St} : fpOf (.mkIface a b) e st = {} := rfl
@[simp] theorem fpOf_mkf {a b} {e : Operand → Value} {st : St} : fpOf (.mkf a b) e st = {} := rfl
@[simp] theorem fpOf_mkMap {e : Operand → Value} {st : St} : fpOf (.mkMap) e st = {} := rfl
@[simp] theorem fpOf_mkSlice {a b c d f'} {e : Operand → Value} {st : St} : fpOf (.mkSlice a b c d f') e st = {} := rfl
@[simp] theorem fpOf_slice {a b c d f'} {e : Operand → Value} {st : St} : fpOf (.slice a b c d f') e st = { r := blk (e b) } := rfl
@[simp] theorem fpOf_faddr {a b} {e : Operand → Value} {st : St} : fpOf (.faddr a b) e st = {} := rfl
@[simp] theorem fpOf_field {a b c} {e : Operand → Value} {st : St} : fpOf (.field a b c) e st = {} := rfl
@[simp] theorem fpOf_iaddrS {a b c} {e : Operand → Value} {st : St} : fpOf (.iaddrS a b c) e st = {} := rfl
@[simp] theorem fpOf_iaddrA {a b c d} {e : Operand → Value} {st : St} : fpOf (.iaddrA a b c d) e st = {} := rfl
@[simp] theorem fpOf_indexA {a b c d f'} {e : Operand → Value} {st : St} : fpOf (.indexA a b c d f') e st = {} := rfl
@[simp] theorem fpOf_lookup {a b c d f' g} {e : Operand → Value} {st : St} : fpOf (.lookup a b c d f' g) e st = { r := blk (e d) } := rfl
@[simp] theorem fpOf_mapUpd {a b c d f'} {e : Operand → Value} {st : St} : fpOf (.mapUpd a b c d f') e st = { w := blk (e c) } := rfl
@[simp] theorem fpOf_mapEntry {a b c d f'} {e : Operand → Value} {st : St} : fpOf (.mapEntry a b c d f') e st = { w := blk (e d) } := rfl
@[simp] theorem fpOf_entryStore {a b c} {e : Operand → Value} {st : St} : fpOf (.entryStore a b c) e st = { w := blk (e a) } := rfl
@[simp] theorem fpOf_delete {a b c d} {e : Operand → Value} {st : St} : fpOf (.delete a b c d) e st = { w := blk (e c) } := rfl
@[simp] theorem fpOf_range {a} {e : Operand → Value} {st : St} : fpOf (.range a) e st = { r := blk (e a) } := rfl
@[simp] theorem fpOf_next {a} {e : Operand → Value} {st : St} : fpOf (.next a) e st = { r := iterMap st.h (blk (e a)), w := blk (e a) } := rfl
@[simp] theorem fpOf_entry {a} {e : Operand → Value} {st : St} : fpOf (.entry a) e st = { r := iterMap st.h (blk (e a)) } := rfl
@[simp] theorem fpOf_assert {a b c} {e : Operand → Value} {st : St} : fpOf (.assert a b c) e st = {} := rfl
@[simp] theorem fpOf_extract {a b} {e : Operand → Value} {st : St} : fpOf (.extract a b) e st = {} := rfl
@[simp] theorem fpOf_len {a b} {e : Operand → Value} {st : St} : fpOf (.len a b) e st = { r := blk (e b) } := rfl
@[simp] theorem fpOf_append {a b c d f'} {e : Operand → Value} {st : St} : fpOf (.append a b c d f') e st = { r := blk (e f'), w := blk (e d) } := rfl
@[simp] theorem fpOf_appendZ {a b c d f' g} {e : Operand → Value} {st : St} : fpOf (.appendZ a b c d f' g) e st = { w := blk (e f') } := rfl
@[simp] theorem fpOf_copy {a b c} {e : Operand → Value} {st : St} : fpOf (.copy a b c) e st = { r := blk (e c), w := blk (e b) } := rfl
@[simp] theorem fpOf_maxmin {a b} {e : Operand → Value} {st : St} : fpOf (.maxmin a b) e st = {} := rfl
@[simp] theorem fpOf_panic {a} {e : Operand → Value} {st : St} : fpOf (.panic a) e st = {} := rfl
theorem fpOf_quiet {op : ROp} (h : quietOp op = true) (e : Operand → Value) (st : St) : (fpOf op e st).w = [] ∧ (fpOf op e st).all = false ∧ (fpOf op e st).bad = false := by
 cases op <;> first | exact ⟨rfl, rfl, rfl⟩ | (simp [quietOp] at h)
def quietAcc (acc : List (Nat × FP)) : Prop := ∀ q ∈ acc, q.2.w = [] ∧ q.2.all = false ∧ q.2.bad = false
theorem clashes_quiet {acc : List (Nat × FP)} (ha : quietAcc acc) {fp : FP} (h : fp.w = [] ∧ fp.all = false ∧ fp.bad = false) (anc : Nat) : clashes acc anc fp = false := by
 unfold clashes
 rw [List.any_eq_false]
 intro q hq
 obtain ⟨h1, h2, h3⟩ := ha q hq
 obtain ⟨h4, h5, h6⟩ := h
 simp [FP.clash, FP.hits, h1, h2, h3, h4, h5, h6]
def normK (Q : Post) : Post
 | .normal, fr, st => Q .normal fr st
 | _, _, _ => False
@[simp] theorem normK_normal {Q : Post} {fr st} : normK Q .normal fr st ↔ Q .normal fr st := Iff.rfl
@[simp] theorem normK_pan {Q : Post} {fr st v} : normK Q (.pan v) fr st ↔ False := Iff.rfl
def quietL : List ROper → Bool
 | [] => true
 | o :: os => quietOp o.op && quietL os
@[simp] theorem quietL_nil : quietL [] = true := rfl
@[simp] theorem quietL_cons {dst g op anc os} : quietL (⟨dst, g, op, anc⟩ :: os) = (quietOp op && quietL os) := rfl
theorem quietOp_isCall {op : ROp} (h : quietOp op = true) : isCall op = false := by cases op <;> first | rfl | simp [quietOp] at h
theorem DD_quiet : ∀ {l : List ROper} {i : Nat} {acc : List (Nat × FP)} {fr : Fr} {st : St} {Q : Post}, quietL l = true → quietAcc acc → (DD E i acc l fr st Q ↔ DL E l fr st (normK Q)) := by
 intro l
 induction l with
 | nil => intro i acc fr st Q _ _; simp
 | cons o os ih =>
  intro i acc fr st Q hq ha
  obtain ⟨dst, g, op, anc⟩ := o
  simp only [quietL_cons, Bool.and_eq_true] at hq
  have hc := quietOp_isCall hq.1
  have key : DD E i acc (⟨dst, none, op, anc⟩ :: os) fr st Q ↔ DL E (⟨dst, none, op, anc⟩ :: os) fr st (normK Q) := by
   rw [DD_step' hc, DL_step' hc]
   unfold stepW
   constructor
   ·rintro ⟨r, st', h, hr⟩
    cases r with
    | val v => obtain ⟨_, h2⟩ := hr; exact ⟨_, _, h, (ih hq.2 (fun q hqm => by
      rcases List.mem_cons.1 hqm with rfl | hm
      ·exact fpOf_quiet hq.1 _ _
      ·exact ha q hm)).1 h2⟩
    | pan v => exact hr.elim
   ·rintro ⟨r, st', h, hr⟩
    cases r with
    | val v => exact ⟨_, _, h, clashes_quiet ha (fp := { fpOf op (ev fr) st with al := st'.h.length != st.h.length }) (fpOf_quiet hq.1 (ev fr) st) anc, (ih hq.2 (fun q hqm => by
      rcases List.mem_cons.1 hqm with rfl | hm
      ·exact fpOf_quiet hq.1 _ _
      ·exact ha q hm)).2 hr⟩
    | pan v => exact hr.elim
  cases g with
  | none => exact key
  | some g =>
   obtain ⟨s, w⟩ := g
   rw [DD_guard, DL_guard, key, ih hq.2 ha]
def drawK (E : Env) (l : List ROper) (fr : Fr) (st : St) (Q : Post) (b : Bool) : Prop := if b = true then DL E l fr st (normK Q) else DD E 0 [] l fr st Q
@[simp] theorem drawK_true {l : List ROper} {fr st} {Q : Post} : drawK E l fr st Q true ↔ DL E l fr st (normK Q) := Iff.rfl
@[simp] theorem drawK_false {l : List ROper} {fr st} {Q : Post} : drawK E l fr st Q false ↔ DD E 0 [] l fr st Q := by simp [drawK]
theorem DW_opsQ {l : List ROper} {fr st} {Q : Post} : DW E (.ops true l) fr st Q ↔ drawK E l fr st Q (quietL l) := by
 rw [DW_opsD]
 unfold drawK
 split
 ·rename_i h; exact DD_quiet h (fun q hq => by simp at hq)
 ·exact Iff.rfl
attribute [simp] DW_opsQ
@[simp] theorem clashes_nil {anc : Nat} {fp : FP} : clashes [] anc fp = false := rfl
@[simp] theorem clashes_cons {j : Nat} {fp' : FP} {acc : List (Nat × FP)} {anc : Nat} {fp : FP} : clashes ((j, fp') :: acc) anc fp = (!anc.testBit j && fp'.clash fp || clashes acc anc fp) := rfl
@[simp] theorem clash_mk {a b r w l a' b' r' w' l'} : FP.clash ⟨a, b, r, w, l⟩ ⟨a', b', r', w', l'⟩ =
  ((b && (a' || b' || !r'.isEmpty || !w'.isEmpty) || a && !w'.isEmpty || b && l' || w.any fun k => r'.contains k || w'.contains k) ||
    (b' && (a || b || !r.isEmpty || !w.isEmpty) || a' && !w.isEmpty || b' && l || w'.any fun k => r.contains k || w.contains k)) := rfl
@[simp] theorem blk_ptr {b i : Nat} : blk (.pointer (some ⟨b, i, none⟩)) = [b] := rfl
@[simp] theorem blk_slice {b i n c : Nat} : blk (.slice (some ⟨b, i, none⟩) n c) = [b] := rfl
@[simp] theorem blk_slice0 {n c : Nat} : blk (.slice none n c) = [] := rfl
@[simp] theorem blk_map {b : Nat} : blk (.map (some b)) = [b] := rfl
def Ext (h h' : List O) : Prop := ∃ l, h' = h ++ l
theorem Ext.refl (h : List O) : Ext h h := ⟨[], by simp⟩
theorem Ext.snoc (h : List O) (l : List O) : Ext h (h ++ l) := ⟨l, rfl⟩
theorem Ext.trans {a b c : List O} (h : Ext a b) (k : Ext b c) : Ext a c := by
 obtain ⟨l, rfl⟩ := h; obtain ⟨m, rfl⟩ := k; exact ⟨l ++ m, by simp⟩
theorem Ext.len {h h' : List O} (k : Ext h h') : h.length ≤ h'.length := by obtain ⟨l, rfl⟩ := k; simp
theorem Ext.rd {h h' : List O} (k : Ext h h') {b i : Nat} {v : Value} (hr : Ai.rd h b i = some v) : Ai.rd h' b i = some v := by obtain ⟨l, rfl⟩ := k; exact rd_append hr l
theorem Ext.rdN {h h' : List O} (k : Ext h h') {b i n : Nat} {v : List Value} (hr : Ai.rdN h b i n = some v) : Ai.rdN h' b i n = some v := by obtain ⟨l, rfl⟩ := k; exact rdN_append hr l
theorem Ints.ext {h h' : List O} {v : Value} {xs : List Int} (hc : Ints h v xs) (k : Ext h h') : Ints h' v xs := by obtain ⟨l, rfl⟩ := k; exact hc.mono l
theorem Mat.ext {h h' : List O} {v : Value} {A : List (List Int)} (hc : Mat h v A) (k : Ext h h') : Mat h' v A := by obtain ⟨l, rfl⟩ := k; exact hc.mono l
structure Boxed (h : List O) (p : Nat) (cs : List Value) : Prop where
 lt : p < h.length
 rd : ∀ i, Ai.rd h p i = cs[i]?
 rdN : ∀ i n, Ai.rdN h p i n = if i + n ≤ cs.length then some ((cs.drop i).take n) else none
theorem Boxed.snoc (h : List O) (cs : List Value) (el : TypeId) (own : Option Nat) : Boxed (h ++ [.cells cs el own]) h.length cs := ⟨by simp, fun i => by simp, fun i n => by simp⟩
theorem Boxed.ext {h h' : List O} {p : Nat} {cs : List Value} (hb : Boxed h p cs) (k : Ext h h') : Boxed h' p cs := by
 obtain ⟨l, rfl⟩ := k
 have e : (h ++ l)[p]? = h[p]? := List.getElem?_append_left hb.lt
 exact ⟨by have := hb.lt; simp; omega, fun i => by rw [← hb.rd i]; simp only [Ai.rd, e], fun i n => by rw [← hb.rdN i n]; simp only [Ai.rdN, e]⟩
@[simp] theorem joined_mk (h : List O) (f : Nat) : joined ⟨h, f⟩ ⟨h, h.length⟩ = ⟨h, f⟩ := by simp [joined]
def firstI (p : Nat → Bool) (n : Nat) : Int := match (List.range n).find? p with
 | some i => i
 | none => -1
end Go.Ai
namespace Go.Ai
theorem Ext.set {h0 h : List O} (k : Ext h0 h) {b : Nat} (hb : h0.length ≤ b) (o : O) : Ext h0 (h.set b o) := by
 obtain ⟨l, rfl⟩ := k
 exact ⟨l.set (b - h0.length) o, by rw [List.set_append_right _ _ hb]⟩
def OwnS (h : List O) (lo : Nat) (v : Value) (k : Nat) (cs : List Value) (el : TypeId) (size : Nat) : Prop :=
 cs.length = k * size ∧ ((v = .slice none 0 0 ∧ k = 0) ∨ ∃ b s, v = .slice (some ⟨b, 0, none⟩) k k ∧ lo ≤ b ∧ h[b]? = some (.cells cs el (some s)) ∧ (s = 0 ∨ s = size))
theorem OwnS.nil (h : List O) (lo : Nat) (el : TypeId) (size : Nat) : OwnS h lo (.slice none 0 0) 0 [] el size := ⟨by simp, .inl ⟨rfl, rfl⟩⟩
theorem OwnS.ext {h h' : List O} {lo k : Nat} {v : Value} {cs : List Value} {el : TypeId} {size : Nat} (ho : OwnS h lo v k cs el size) (e : Ext h h') : OwnS h' lo v k cs el size := by
 refine ⟨ho.1, ?_⟩
 rcases ho.2 with h1 | ⟨b, s, h1, h2, h3, h4⟩
 ·exact .inl h1
 ·obtain ⟨l, rfl⟩ := e
  exact .inr ⟨b, s, h1, h2, by rw [List.getElem?_append_left (List.getElem?_eq_some_iff.1 h3).1]; exact h3, h4⟩
@[simp] theorem one1_int {k n} : one1 (.int k n) = true := rfl
@[simp] theorem one1_bool {b} : one1 (.bool b) = true := rfl
@[simp] theorem one1_slice {a n c} : one1 (.slice a n c) = true := rfl
@[simp] theorem one1_ptr {a} : one1 (.pointer a) = true := rfl
@[simp] theorem one1_map {a} : one1 (.map a) = true := rfl
@[simp] theorem setL_nil {c : List Value} {i : Nat} : setL c i [] = c := rfl
@[simp] theorem setL_cons {c : List Value} {i : Nat} {v : Value} {vs : List Value} : setL c i (v :: vs) = setL (c.set i v) (i + 1) vs := rfl
@[simp] theorem fillL_nil {c : List Value} : fillL c [] = some c := rfl
@[simp] theorem fillL_cons {c : List Value} {off size : Nat} {v : Value} {rest} : fillL c ((off, size, v) :: rest) = if v.cells.toList.length = size ∧ off + size ≤ c.length then fillL (setL c off v.cells.toList) rest else none := rfl
theorem sumN_add (f g : Nat → Int) (n : Nat) : sumN (fun i => f i + g i) n = sumN f n + sumN g n := by
 induction n with
 | zero => rfl
 | succ n ih => simp only [sumN, ih]; omega
theorem sumN_mul (c : Int) (f : Nat → Int) (n : Nat) : sumN (fun i => c * f i) n = c * sumN f n := by
 induction n with
 | zero => simp [sumN]
 | succ n ih => simp only [sumN, ih, Int.mul_add]
theorem sumN_swap (f : Nat → Nat → Int) (n m : Nat) : sumN (fun i => sumN (fun j => f i j) m) n = sumN (fun j => sumN (fun i => f i j) n) m := by
 induction n with
 | zero =>
  simp only [sumN]
  induction m with
  | zero => rfl
  | succ m ih => simp only [sumN, ← ih]; rfl
 | succ n ih => simp only [sumN, ih, sumN_add]
end Go.Ai
namespace Go.Ai
open Go.RowKit
variable {P : Program} {ρ ρ' : RM} {w w' : World} {D : List Deferred}
def Callable (P : Program) (f : FuncId) : Prop := ∃ fn, P.funcs[f]? = some fn ∧ fn.name ≠ "runtime.NumGoroutine" ∧ fn.body ≠ none
theorem run_callFunc {f : FuncId} {args : Array Value} (h : Callable P f) : (callFunc f args).run P w = .ok (.enter f args) w := by
 obtain ⟨fn, h1, h2, h3⟩ := h
 simp [callFunc, Sem.run_bind, h1, h2, h3]
theorem cop_call {o : Oper} {f : Operand} {args : List Operand} (hc : cop P o = some (.call f args)) : ∃ c : Call, o.op = .call c ∧ c.callee = .value f ∧ c.args.toList = args := by
  unfold cop at hc
  split at hc
  ·cases hc
  cases hop : o.op <;> simp only [hop] at hc
  case call c =>
   obtain ⟨callee, args', argTypes⟩ := c
   cases callee <;> (try simp only at hc)
   case value f' =>
    simp only [Option.some.injEq, ROp.call.injEq] at hc
    obtain ⟨rfl, rfl⟩ := hc
    exact ⟨_, rfl, rfl, rfl⟩
   case builtin b => cases b <;> (try simp only at hc) <;> (repeat' split at hc) <;> simp at hc
   all_goals (try simp at hc)
  case makeFunc fn a b => cases fn <;> (try simp only at hc) <;> (repeat' split at hc) <;> simp at hc
  case makeMap t r => cases r <;> simp at hc
  case next it b => cases b <;> simp at hc
  case typeAssert a b c d => cases d <;> (try simp only at hc) <;> (repeat' split at hc) <;> simp at hc
  case build => unfold cbuild at hc; (repeat' split at hc) <;> simp at hc
  case binOp => unfold cbin at hc; (repeat' split at hc) <;> simp at hc
  all_goals ((repeat' split at hc) <;> simp at hc)
theorem run_callOp {o : Oper} {e e' : Operand → Value} {f : Operand} {args : List Operand} {g : FuncId} {vs : List Value} (hc : cop P o = some (.call f args)) (hg : Given ρ o.op e e') (ht : target (e f) (args.map e) = some (g, vs)) (hlt : g < yB) (hcb : Callable P g) :
  ∃ vs', LRel ρ vs vs' ∧ (execOp e' o).run P w = .ok (.enter g vs'.toArray) w := by
 have hop := cop_call hc
 obtain ⟨⟨callee, cargs, argTypes⟩, hop, hcal, hargs⟩ := hop
 simp only at hcal hargs
 subst hcal hargs
 rw [hop] at hg
 unfold target at ht
 split at ht
 ·rename_i g' first cap hf
  split at ht
  ·simp only [Option.some.injEq, Prod.mk.injEq] at ht
   obtain ⟨rfl, rfl⟩ := ht
   have hfv := hg.rel f (by simp [Op.operands, Call.operands])
   rw [hf] at hfv
   obtain ⟨rfl, cap', hf', hcap⟩ := hfv.inv_func
   have hal : LRel ρ (cargs.toList.map e) (cargs.toList.map e') := LRel.map cargs.toList fun x hx => hg.rel x (by simp [Op.operands, Call.operands]; exact .inr (by simpa using hx))
   refine ⟨cargs.toList.map e' ++ cap'.toList, by simpa using hal.append hcap, ?_⟩
   have harr : (cargs.toList.map e' ++ cap'.toList).toArray = cargs.map e' ++ cap' := by apply Array.ext'; simp
   rw [harr]
   simp [execOp, hop, resolve, hf', Deferred.ofValue, invoke, run_callFunc hcb]
  ·cases ht
 ·simp only [Option.some.injEq, Prod.mk.injEq] at ht
  rw [← ht.1] at hlt
  exact absurd hlt (Nat.not_lt.2 (Nat.le_add_right _ _))
 ·cases ht
theorem run_callY {o : Oper} {e e' : Operand → Value} {f : Operand} {args : List Operand} {g : FuncId} {vs : List Value} (hc : cop P o = some (.call f args)) (hg : Given ρ o.op e e') (ht : target (e f) (args.map e) = some (g, vs)) (hge : yB ≤ g) :
  ∃ l vs', ρ (g - yB) = some l ∧ LRel ρ vs vs' ∧ (execOp e' o).run P w = (Instr.yield l.b vs'.toArray).run P w := by
 have hop := cop_call hc
 obtain ⟨⟨callee, cargs, argTypes⟩, hop, hcal, hargs⟩ := hop
 simp only at hcal hargs
 subst hcal hargs
 rw [hop] at hg
 unfold target at ht
 split at ht
 ·split at ht
  ·rename_i hlt
   simp only [Option.some.injEq, Prod.mk.injEq] at ht
   rw [ht.1] at hlt
   exact absurd hlt (Nat.not_lt.2 hge)
  ·cases ht
 ·rename_i k first cap hf
  simp only [Option.some.injEq, Prod.mk.injEq] at ht
  obtain ⟨rfl, rfl⟩ := ht
  have hfv := hg.rel f (by simp [Op.operands, Call.operands])
  rw [hf] at hfv
  obtain ⟨_, _, l, hl, hf'⟩ := hfv.inv_yld
  have hal : LRel ρ (cargs.toList.map e) (cargs.toList.map e') := LRel.map cargs.toList fun x hx => hg.rel x (by simp [Op.operands, Call.operands]; exact .inr (by simpa using hx))
  refine ⟨l, cargs.toList.map e', by rw [Nat.add_sub_cancel_left]; exact hl, hal, ?_⟩
  have harr : (cargs.toList.map e').toArray = cargs.map e' := by apply Array.ext'; simp
  rw [harr]
  simp [execOp, hop, resolve, hf', Deferred.ofValue, invoke]
 ·cases ht
theorem cop_next {o : Oper} {it : Operand} (hc : cop P o = some (.next it)) : o.op = .next it false := by
 unfold cop at hc
 split at hc
 ·cases hc
 cases hop : o.op <;> simp only [hop] at hc
 case next it' iss =>
  cases iss <;> simp at hc
  rw [hc]
 case call c =>
  obtain ⟨callee, args', argTypes⟩ := c
  cases callee <;> (try simp only at hc)
  case builtin b => cases b <;> (try simp only at hc) <;> (repeat' split at hc) <;> simp at hc
  all_goals (try simp at hc)
 case makeFunc fn a b => cases fn <;> (try simp only at hc) <;> (repeat' split at hc) <;> simp at hc
 case makeMap t r => cases r <;> simp at hc
 case typeAssert a b c d => cases d <;> (try simp only at hc) <;> (repeat' split at hc) <;> simp at hc
 case build => unfold cbuild at hc; (repeat' split at hc) <;> simp at hc
 case binOp => unfold cbin at hc; (repeat' split at hc) <;> simp at hc
 all_goals ((repeat' split at hc) <;> simp at hc)
theorem coper_spec {nt : Nat} {ops : Array Oper} {b : Array Nat} {draw : Bool} {i : Nat} {r : ROper} (h : coper P nt ops b draw i = some r) :
  ∃ o, ops[i]? = some o ∧ cop P o = some r.op ∧ r.dst = o.dst ∧ (∀ x, o.dst = some x → x < nt) ∧
   (r.guard = none ∧ o.guard = none ∨ ∃ j d w, o.guard = some (j, w) ∧ (ops[j]?).bind (·.dst) = some d ∧ j < i ∧ r.guard = some (d, w)) ∧ r.anc = (if draw then b.getD i 0 else 0) := by
 unfold coper at h
 simp only [bind, pure, Option.bind_eq_some_iff] at h
 obtain ⟨o, ho, rr, hr, h⟩ := h
 have hlt : guardB (o.dst.toList.all fun x => decide (x < nt)) = some () → ∀ x, o.dst = some x → x < nt := fun hgb x hx => by
  unfold guardB at hgb
  split at hgb
  ·rename_i hall
   rw [hx] at hall
   simpa using hall
  ·cases hgb
 cases hog : o.guard with
 | none =>
  simp only [hog, Option.bind_some, Option.bind_eq_some_iff, Option.some.injEq] at h
  obtain ⟨_, hgb, rfl⟩ := h
  exact ⟨o, ho, hr, rfl, hlt hgb, .inl ⟨rfl, hog⟩, rfl⟩
 | some p =>
  obtain ⟨j, wt⟩ := p
  simp only [hog] at h
  split at h
  ·rename_i d hd
   split at h
   ·rename_i hji
    simp only [Option.bind_some, Option.bind_eq_some_iff, Option.some.injEq] at h
    obtain ⟨_, hgb, rfl⟩ := h
    exact ⟨o, ho, hr, rfl, hlt hgb, .inr ⟨j, d, wt, hog, hd, hji, rfl⟩, rfl⟩
   ·simp at h
  ·simp at h
theorem wanted_rel {nt : Nat} {ops : Array Oper} {b : Array Nat} {draw : Bool} {i : Nat} {r : ROper} {o : Oper} {fr : Fr} {a : Act} (h : coper P nt ops b draw i = some r) (ho : ops[i]? = some o)
  (hv : ∀ d w, r.guard = some (d, w) → VRel ρ (get fr d) (a.tmps.getD d undef)) : Region.wanted o (yielded ops a.tmps) = wanted fr r.guard := by
 obtain ⟨o', ho', _, _, _, hg, _⟩ := coper_spec h
 obtain rfl : o = o' := Option.some.inj (ho.symm.trans ho')
 rcases hg with ⟨h1, h2⟩ | ⟨j, d, wt, h1, h2, _, h4⟩
 ·rw [h1]; simp [Region.wanted, h2, wanted]
 ·have hvd := hv d wt h4
  rw [h4]
  simp only [Region.wanted, h1, yielded, h2, Option.bind_some, wanted]
  have hx : a.tmps.getD d undef = (a.tmps[d]?).getD undef := by simp
  cases hq : a.tmps[d]? with
  | none =>
   rw [hx, hq] at hvd
   simp only [Option.getD_none] at hvd
   cases hgd : get fr d with
   | bool x => rw [hgd] at hvd; have := hvd.bool; simp [undef] at this
   | _ => rfl
  | some v =>
   rw [hx, hq] at hvd
   simp only [Option.getD_some] at hvd
   cases hgd : get fr d with
   | bool x => rw [hgd] at hvd; obtain rfl := hvd.bool; cases x <;> cases wt <;> rfl
   | _ =>
    rw [hgd] at hvd
    cases v with
    | bool y => cases hvd
    | _ => rfl
def CallsOk (F : Fence) (P : Program) (B : Nat) (cp : CallP) : Prop :=
 ∀ f args st Q, cp f args st Q → (yB ≤ f → ∀ ρ w args' l, ρ (f - yB) = some l → LRel ρ args args' → SRel B ρ w st →
   ∃ lf tmps as bd, (Instr.yield l.b args'.toArray).run P w = .ok (.round l.b lf tmps as bd) w ∧ ∀ n, RoundIn F n P l.b lf tmps as bd w (CPost B ρ w st Q)) ∧
  (f < yB → Callable P f ∧ (st.fl = st.h.length → ∀ n ρ w args', LRel ρ args args' → SRel B ρ w st → CallsIn F n P f args'.toArray w (CPost B ρ w st Q)))
theorem SRel.fl {B : Nat} {st : St} (h : SRel B ρ w st) (n : Nat) : SRel B ρ w { st with fl := n } := ⟨h.mem, h.full⟩
theorem sees_of {B nt : Nat} {st : St} {fr : Fr} {a : Act} {o : Oper} {r : ROp} (hc : cop P o = some r) (hf : FRel D ρ nt fr a) (hS : SRel B ρ w st) :
  Sees ρ w st.h ((fpOf r (ev fr) st).r ++ (fpOf r (ev fr) st).w) :=
 hp_sees (fp_known (e' := a.eval) (fun x hx => ev_rel hf (cop_okO hc x (cop_fpOps hc x hx))) fun b _ L hL => hS.mem.rel b L hL) fun b _ L hL => hS.mem.rel b L hL
theorem runL_sound {F : Fence} (hF : Open F) {B : Nat} {cp : CallP} (hcp : CallsOk F P B cp) {nt n : Nat} {ops : Array Oper} {b : Array Nat} {draw : Bool} : ∀ (is : List Nat) (l : List ROper) (fr : Fr) (st : St) (Q : Ex → Fr → St → Prop) (a : Act) (w : World) (ρ : RM) (Q' : Exit → Act → World → Prop),
  is.mapM (coper P nt ops b draw) = some l → runL cp l fr st Q → FRel D ρ nt fr a → SRel B ρ w st →
  (∀ ex fr' st' ρ' e a' w', Q ex fr' st' → XRel ρ' ex e → FRel D ρ' nt fr' a' → SRel B ρ' w' st' → Ran B ρ ρ' w w' st st' → Q' e a' w') → wpOpsIn F n P ops Q' is a w := by
 intro is
 induction is with
 | nil =>
  intro l fr st Q a w ρ Q' hl hr hf hS hQ
  simp at hl
  subst hl
  exact hQ .normal fr st ρ .normal a w hr trivial hf hS (Ran.refl B ρ w st)
 | cons i is ih =>
  intro l fr st Q a w ρ Q' hl hr hf hS hQ
  simp only [List.mapM_cons, bind, Option.bind_eq_some_iff, pure, Option.some.injEq] at hl
  obtain ⟨r, hco, l', hl', rfl⟩ := hl
  obtain ⟨o, ho, hc, hdst, hdlt, hgd, _⟩ := coper_spec hco
  have hw := wanted_rel hco ho (fun d w _ => hf.rel d)
  -- what follows
  have hnext : ∀ (v v' : Value) (st1 : St) (ρ1 : RM) (w1 : World), runL cp l' (putD fr r.dst v) st1 Q → VRel ρ1 v v' → SRel B ρ1 w1 st1 → Ran B ρ ρ1 w w1 st st1 → wpOpsIn F n P ops Q' is (a.put o.dst v') w1 := by
   intro v v' st1 ρ1 w1 hr1 hv hS1 hran
   refine ih l' _ st1 Q _ w1 ρ1 Q' hl' hr1 ?_ hS1 fun ex fr' st' ρ' e a' w' h1 h2 h3 h4 h5 => hQ ex fr' st' ρ' e a' w' h1 h2 h3 h4 (hran.trans h5)
   rw [hdst]
   exact (hf.mono hran.le).putD hdlt hv
  simp only [wpOpsIn, ho]
  simp only [runL] at hr
  rw [hw]
  by_cases hwt : wanted fr r.guard = true
  ·rw [if_pos hwt] at hr ⊢
   have hgiven := given_of hc hf
   have hsee := sees_of hc hf hS
   have hk : ∀ b ∈ (fpOf r.op (ev fr) st).w, ∃ L, ρ b = some L := fun b hb =>
    fp_known (e' := a.eval) (w := w) (fun x hx => ev_rel hf (cop_okO hc x (cop_fpOps hc x hx))) (fun b _ L hL => hS.mem.rel b L hL) b (List.mem_append.2 (.inr hb))
   have hplain : (∀ v st1, step r.op (ev fr) st = some (.val v, st1) → runL cp l' (putD fr r.dst v) st1 Q) → (∀ v st1, step r.op (ev fr) st = some (.pan v, st1) → Q (.pan v) fr st1) → (step r.op (ev fr) st).isSome = true → o.wpIn F n P a w (wpOpsIn F n P ops Q' is) Q' := by
    intro h1 h2 h3
    obtain ⟨⟨res, st1⟩, hs⟩ := Option.isSome_iff_exists.1 h3
    refine wpIn_of_run hF hc ?_
    cases res with
    | val v =>
     obtain ⟨ρ1, v', w1, hrun, hv, hS1, hran⟩ := hS.step (step_ok hc hgiven (fun _ => hS.full.dom) hsee hs) hk (step_ro hs)
     exact uponIn_step hrun (hnext v v' st1 ρ1 w1 (h1 v st1 hs) hv hS1 hran)
    | pan v =>
     obtain ⟨rfl, v', hrun, hv⟩ := step_pan (w := w) hc hgiven hs
     rw [hrun]
     exact hQ (.pan v) fr st1 ρ _ a w (h2 v st1 hs) ⟨v', hv, rfl⟩ hf hS (Ran.refl B ρ w st1)
   cases hop : r.op <;> simp only [hop] at hr
   case call f args =>
    rw [hop] at hc
    split at hr
    ·rename_i g vs ht
     have hend : ∀ e w1, CPost B ρ w { st with fl := st.h.length } (fun out st' => match out with
       | .ret v => runL cp l' (putD fr r.dst v) (joined st st') Q
       | .pan v => Q (.pan v) fr (joined st st')) e w1 →
       (match e with
        | .returned v => wpOpsIn F n P ops Q' is (a.put o.dst v) w1
        | .panicked chain => Q' (.panic chain) a w1
        | .outgrown => LetsOut Q') := by
      intro e w1 h
      cases e with
      | returned v' =>
       obtain ⟨v, st1, ρ1, h1, h2, h3, h4⟩ := h
       exact hnext v v' _ ρ1 w1 h1 h2 ⟨h3.mem, h3.full⟩ (h4.joined hS.full)
      | panicked chain =>
       obtain ⟨v, v', st1, ρ1, h1, h2, rfl, h3, h4⟩ := h
       have hj := h4.joined hS.full
       exact hQ (.pan v) fr _ ρ1 _ a w1 h1 ⟨v', h2, rfl⟩ (hf.mono hj.le) ⟨h3.mem, h3.full⟩ hj
      | outgrown => exact h.elim
     by_cases hy : yB ≤ g
     ·obtain ⟨lc, vs', hlc, hvs, hrun⟩ := run_callY (w := w) hc hgiven ht hy
      obtain ⟨lf, tmps, as, bd, hyd, hround⟩ := (hcp _ _ _ _ hr).1 hy ρ w vs' lc hlc hvs (hS.fl _)
      refine wpIn_of_run hF hc ?_
      rw [hrun, hyd]
      refine ⟨fun h => absurd h (by rw [hF.depth]; simp), ?_⟩
      exact (hround (n - 1)).mono fun e w1 h => by have := hend e w1 h; cases e <;> exact this
     obtain ⟨hcb, hcall⟩ := (hcp _ _ _ _ hr).2 (Nat.lt_of_not_le hy)
     obtain ⟨vs', hvs, hrun⟩ := run_callOp (w := w) hc hgiven ht (Nat.lt_of_not_le hy) hcb
     refine wpIn_of_run hF hc ?_
     rw [hrun]
     refine ⟨fun h => absurd h (by rw [hF.depth]; simp), ?_⟩
     exact (hcall rfl (n - 1) ρ w vs' hvs (hS.fl _)).mono fun e w1 h => by have := hend e w1 h; cases e <;> exact this
    ·exact hr.elim
   case next it =>
    rw [hop] at hc
    split at hr
    ·rename_i rr bb since seen lc hn
     obtain ⟨h1, h2⟩ := hr
     have hiv : VRel ρ (ev fr it) (a.eval it) := ev_rel hf (cop_okO hc it (cop_fpOps hc it (by simp [fpOps])))
     have hse : Sees ρ w st.h (iterMap st.h (blk (ev fr it))) := fun k hk => hsee k (by rw [hop]; simp [fpOf]; exact .inl hk)
     obtain ⟨hb, hcases⟩ := next_ok (P := P) (w := w) (ty := o.type) hn hiv hse
     have hkk : ∀ b ∈ [rr], ∃ L, ρ b = some L := fun b hb' => blk_known hiv (by rw [hb]; exact hb')
     refine wpIn_of_run hF hc ?_
     have hexec : execOp a.eval o = (do pure (Next.value (← Instr.next (a.eval it) false o.type)) : Sem Next) := by
      have hoo : o.op = .next it false := cop_next hc
      simp [execOp, hoo]
     rw [hexec]
     rcases hcases with ⟨hl0, hst⟩ | ⟨en, hen, hst⟩
     ·obtain ⟨ρ1, v', w1, hrun, hv, hS1, hran⟩ := hS.step hst hkk (RoKept.set rfl)
      exact uponIn_step hrun (hnext nextOver v' _ ρ1 w1 (h1 hl0) hv hS1 hran)
     ·obtain ⟨ρ1, v', w1, hrun, hv, hS1, hran⟩ := hS.step hst hkk (RoKept.set rfl)
      exact uponIn_step hrun (hnext _ v' _ ρ1 w1 (h2 en hen) hv hS1 hran)
    ·exact hr.elim
   all_goals
    rw [hop] at hplain
    refine hplain (fun v st1 hs => ?_) (fun v st1 hs => ?_) ?_
    ·rw [hs] at hr; exact hr
    ·rw [hs] at hr; exact hr
    ·revert hr
     cases step _ (ev fr) st with
     | none => intro hr; exact hr.elim
     | some p => intro _; rfl
  ·rw [if_neg hwt] at hr ⊢
   exact ⟨fun f _ => hF.fn f, hnext undef undef st ρ w hr (VRel.undef_ ρ) hS (Ran.refl B ρ w st)⟩
end Go.Ai
namespace Go.Ai
open Go.RowKit
variable {P : Program} {ρ ρ' : RM} {w w' : World} {D : List Deferred}
def mark (r : Nat) : Deferred := { target := .collected r, args := #[] }
theorem Ran.off {B : Nat} {st st' : St} (h : Ran B ρ ρ' w w' st st') {r : Nat} (hr : r < w.heap.size) (hu : ∀ id l, ρ id = some l → l.b ≠ r) : w'.heap[r]? = w.heap[r]? ∧ ∀ id l, ρ' id = some l → l.b ≠ r := by
 refine ⟨h.keep r hr fun id l a b => absurd b (hu id l a), fun id l a e => ?_⟩
 cases h0 : ρ id with
 | some l0 =>
  obtain rfl : l = l0 := Option.some.inj (a.symm.trans (h.le id l0 h0))
  exact hu id l h0 e
 | none =>
  obtain ⟨_, h1 | ⟨k, lk, q1, q2, _⟩⟩ := h.place id l a h0
  ·omega
  ·exact hu k lk q1 (q2.trans e)
def Marks (lo : Nat) (ρ : RM) (w : World) (D D' : List Deferred) : Prop :=
 ∃ rs : List Nat, D' = rs.map mark ++ D ∧ rs.Nodup ∧ ∀ r ∈ rs, lo ≤ r ∧ w.heap[r]? = some (.deferred (some [])) ∧ ∀ id l, ρ id = some l → l.b ≠ r
theorem Marks.refl (lo : Nat) (ρ : RM) (w : World) (D : List Deferred) : Marks lo ρ w D D := ⟨[], rfl, List.nodup_nil, fun r h => by simp at h⟩
theorem lt_of_some {r : Nat} {o : Obj} (h : w.heap[r]? = some o) : r < w.heap.size := (Array.getElem?_eq_some_iff.1 h).1
theorem Marks.ran {B lo : Nat} {D' : List Deferred} {st st' : St} (h : Marks lo ρ w D D') (hr : Ran B ρ ρ' w w' st st') : Marks lo ρ' w' D D' := by
 obtain ⟨rs, h1, h2, h3⟩ := h
 refine ⟨rs, h1, h2, fun r hm => ?_⟩
 obtain ⟨a, b, c⟩ := h3 r hm
 obtain ⟨d, e⟩ := hr.off (lt_of_some b) c
 exact ⟨a, d.trans b, e⟩
theorem Marks.trans {B lo : Nat} {D₁ D₂ : List Deferred} {st st' : St} (h : Marks lo ρ w D D₁) (hr : Ran B ρ ρ' w w' st st') (k : Marks w.heap.size ρ' w' D₁ D₂) (hlo : lo ≤ w.heap.size) : Marks lo ρ' w' D D₂ := by
 have h' := h.ran hr
 obtain ⟨rs, h1, h2, h3⟩ := h'
 obtain ⟨rt, k1, k2, k3⟩ := k
 obtain ⟨rs0, g1, g2, g3⟩ := h
 have hrs : rs0 = rs := by
  have := List.append_cancel_right (g1.symm.trans h1)
  have hinj : ∀ a b, mark a = mark b → a = b := fun a b e => by simp [mark] at e; exact e
  exact (List.map_inj_right hinj).1 this
 subst hrs
 refine ⟨rt ++ rs0, by rw [k1, h1]; simp, List.nodup_append.2 ⟨k2, h2, fun a ha b hb e => ?_⟩, fun r hm => ?_⟩
 ·subst e
  have := (k3 a ha).1
  have := lt_of_some (g3 a hb).2.1
  omega
 ·rcases List.mem_append.1 hm with hm | hm
  ·obtain ⟨a, b, c⟩ := k3 r hm; exact ⟨Nat.le_trans hlo a, b, c⟩
  ·exact h3 r hm
structure Off (rs : List Nat) (w w' : World) : Prop where
 size : w'.heap.size = w.heap.size
 os : w'.os = w.os
 tape : w'.tape = w.tape
 output : w'.output = w.output
 same : ∀ k, k ∉ rs → w'.heap[k]? = w.heap[k]?
theorem SRel.offside {B : Nat} {st : St} {rs : List Nat} (h : SRel B ρ w st) (ho : Off rs w w') (hu : ∀ r ∈ rs, ∀ id l, ρ id = some l → l.b ≠ r) : SRel B ρ w' st := by
 have hn : ∀ id l, ρ id = some l → l.b ∉ rs := fun id l hl hm => hu _ hm id l hl rfl
 refine ⟨⟨by rw [ho.size]; exact h.mem.base, fun id l hl => (h.mem.rel id l hl).same (ho.same _ (hn id l hl)), h.mem.ro, fun id l hl hr => ?_, h.mem.sep⟩, h.full⟩
 rw [ho.size]; exact h.mem.own id l hl hr
theorem Ran.offside {B : Nat} {st st' : St} {rs : List Nat} {w₂ : World} (h : Ran B ρ ρ' w w' st st') (ho : Off rs w' w₂) (hr : ∀ r ∈ rs, w.heap.size ≤ r) (hB : B ≤ w.heap.size) : Ran B ρ ρ' w w₂ st st' :=
 ⟨⟨h.le, ho.os.trans h.os, ho.tape.trans h.tape, ho.output.trans h.output, by rw [ho.size]; exact h.size,
  fun k hk => (ho.same k fun hm => by have := hr k hm; omega).trans (h.below k hk),
  fun k hk hid => (ho.same k fun hm => by have := hr k hm; omega).trans (h.keep k hk hid), h.fl, h.len, h.place⟩, h.fresh⟩
theorem marks_leave {F : Fence} {n : Nat} {fn : Func} {tmps : Array Value} {R : Ending → World → Prop} {u : FrameMode} (hu : u ≠ .run) : ∀ (rs : List Nat) (w : World), rs.Nodup → (∀ r ∈ rs, w.heap[r]? = some (.deferred (some []))) →
  (∀ w', Off rs w w' → LeavesIn F n P fn tmps R [] u w') → LeavesInM F n P fn tmps R (rs.map mark) u w := by
 intro rs
 induction rs with
 | nil => intro w _ _ h; exact h w ⟨rfl, rfl, rfl, rfl, fun _ _ => rfl⟩
 | cons r rs ih =>
  intro w hn hr h
  obtain ⟨hn1, hn2⟩ := List.nodup_cons.1 hn
  have hr0 := hr r (by simp)
  refine ⟨hu, .inl ⟨r, w.putObj r (.deferred none), rfl, run_takeDeferred hr0, ?_⟩⟩
  refine ih _ hn2 (fun s hs => ?_) fun w' ho => h w' ⟨?_, ho.os, ho.tape, ho.output, fun k hk => ?_⟩
  ·rw [World.putObj_heap_other (fun e => hn1 (by subst e; exact hs))]
   exact hr s (by simp [hs])
  ·rw [ho.size, World.putObj_size]
  ·simp only [List.mem_cons, not_or] at hk
   rw [ho.same k hk.2, World.putObj_heap_other hk.1]
theorem SRel.eff {B : Nat} {st st' : St} {ws : List Nat} (hS : SRel B ρ w st) (he : Eff ρ ρ' w w' st.h st'.h ws) (hws : ∀ k ∈ ws, (∃ o, st.h[k]? = some o ∧ o.own = true) ∧ st'.fl ≤ k ∧ ∃ L, ρ k = some L) (hfl : st'.fl ≤ st.fl) (hlen : st'.h.length ≤ st.h.length + 1)
  (hown : ∀ id, st.h.length ≤ id → ∀ o, st'.h[id]? = some o → o.own = true) (hro : RoKept st.h st'.h) : SRel B ρ' w' st' ∧ Ran B ρ ρ' w w' st st' := by
 have hws' : ∀ k ∈ ws, ∃ o, st.h[k]? = some o ∧ o.own = true := fun k hk => (hws k hk).1
 have hmem := hS.mem.step he hws' (fun _ _ => rfl) (fun k hk' => (hws k hk').2.2) hlen hown hro
 rw [touched_hp he hws'] at hmem
 have hran := Ran.of_step hS.mem he (fun k hk => by
  obtain ⟨o, ho, hoo⟩ := hws' k hk
  rw [hp_some ho]; exact hoo) (fun k hk => (hws k hk).2.1) hfl
 exact ⟨⟨hmem, hS.full.ran hran⟩, hran⟩
theorem wrote_put {r : Nat} {o x : Obj} (h : w.heap[r]? = some x) : Wrote w (w.putObj r o) r o :=
 ⟨rfl, rfl, rfl, World.putObj_size, World.putObj_heap_same (lt_of_some h), fun k hk => World.putObj_heap_other hk⟩
theorem loop_at {B : Nat} {st : St} {k : Nat} {l : Loc} {b : Bool} {nt : Nat} {fr : List Value} {ps : List Nat} {as bd : Code} (hS : SRel B ρ w st) (hl : ρ k = some l) (hk : st.h[k]? = some (.loop b nt fr ps as bd)) :
  CRel ρ w l (.loop b nt fr ps as bd) := by
 have := hS.mem.rel k l hl
 rw [hp_some hk] at this
 exact this
theorem loop_set {B : Nat} {st : St} {k : Nat} {l : Loc} {b : Bool} {nt : Nat} {fr : List Value} {ps : List Nat} {as bd : Code} {o : O} {ob x : Obj} (hS : SRel B ρ w st) (hl : ρ k = some l) (hk : st.h[k]? = some (.loop b nt fr ps as bd)) (hx : w.heap[l.b]? = some x)
  (hro : o.ro = false) (ho : CRel ρ (w.putObj l.b ob) l o) : SRel B ρ (w.putObj l.b ob) { st with h := st.h.set k o, fl := min st.fl k } ∧ Ran B ρ ρ w (w.putObj l.b ob) st { st with h := st.h.set k o, fl := min st.fl k } := by
 have hlt : k < st.h.length := (List.getElem?_eq_some_iff.1 hk).1
 refine hS.eff (st' := { st with h := st.h.set k o, fl := min st.fl k }) (Eff.wrote hl hlt (wrote_put hx) ho) (fun j hj => ?_) (Nat.min_le_left _ _) (by simp) (fun id h1 o2 h2 => ?_) (RoKept.set hro)
 ·simp at hj; subst hj
  exact ⟨⟨_, hk, rfl⟩, Nat.min_le_right _ _, l, hl⟩
 ·simp only at h2
  rw [List.getElem?_eq_none (by simp; exact h1)] at h2
  cases h2
theorem turn_ok {B : Nat} {st st2 : St} {k : Nat} {l : Loc} {b : Bool} (hS : SRel B ρ w st) (hl : ρ k = some l) (ht : turn b k st = some st2) :
  ∃ r : Loop, w.heap[l.b]? = some (.loop r) ∧ r.state = (if b then .busy else .ready) ∧
   ∀ w2, w2 = w.putObj l.b (.loop { r with state := if b then .ready else .busy, pending := none }) ∨ (w2 = w.putObj l.b (.loop { r with state := if b then .ready else .busy })) → SRel B ρ w2 st2 ∧ Ran B ρ ρ w w2 st st2 := by
 unfold turn at ht
 split at ht
 ·rename_i b' nt fr ps as bd hk
  split at ht
  ·rename_i hb
   subst hb
   obtain rfl := Option.some.inj ht
   obtain ⟨r, h1, h2, h3, h4, h5, h6, h7, h8, h9⟩ := loop_at hS hl hk
   refine ⟨r, h1, h2, fun w2 hw => ?_⟩
   have hw' : w2 = w.putObj l.b (.loop { r with state := if b' then .ready else .busy, pending := none }) := by
    rcases hw with rfl | rfl
    ·rfl
    ·congr 2
     cases r; simp only at h3; subst h3; rfl
   subst hw'
   refine loop_set hS hl hk h1 rfl ⟨_, World.putObj_heap_same (lt_of_some h1), ?_, rfl, h4, h5, h6, h7, h8, h9⟩
   cases b' <;> rfl
  ·cases ht
 ·cases ht
theorem over_ok {B : Nat} {st st2 : St} {k : Nat} {l : Loc} (hS : SRel B ρ w st) (hl : ρ k = some l) (ht : over k st = some st2) :
  ∃ r : Loop, w.heap[l.b]? = some (.loop r) ∧ r.state = .ready ∧ r.pending = none ∧ ∀ o, SRel B ρ (w.putObj l.b o) st2 ∧ Ran B ρ ρ w (w.putObj l.b o) st st2 := by
 unfold over at ht
 split at ht
 ·rename_i nt fr ps as bd hk
  obtain rfl := Option.some.inj ht
  obtain ⟨r, h1, h2, h3, _⟩ := loop_at hS hl hk
  exact ⟨r, h1, h2, h3, fun o => loop_set hS hl hk h1 rfl trivial⟩
 ·cases ht
theorem looped_ok {B nt : Nat} {st : St} {fr : Fr} {a : Act} {ps : Array Tmp} {as bd : Code} {fn : FuncId} (hS : SRel B ρ w st) (hf : FRel D ρ nt fr a) (hps : ∀ p ∈ ps.toList, p < nt) :
  let w2 := (w.alloc (.deferred (some []))).alloc (.loop { state := .ready, pending := none, fn, tmps := a.tmps, params := ps, assign := as, body := bd, defers := w.heap.size })
  let ρ2 := upd ρ st.h.length ⟨w.heap.size + 1, 0, 0, 0⟩
  SRel B ρ2 w2 (looped nt fr ps.toList as bd st) ∧ Ran B ρ ρ2 w w2 st (looped nt fr ps.toList as bd st) ∧ w2.heap[w.heap.size]? = some (.deferred (some [])) ∧ (∀ id l, ρ2 id = some l → l.b ≠ w.heap.size) := by
 intro w2 ρ2
 have hd : Dom ρ st.h := hS.full.dom
 have hle := upd_le ⟨w.heap.size + 1, 0, 0, 0⟩ hd.fresh
 have hheap : w2.heap = (w.heap.push (.deferred (some []))).push (.loop { state := .ready, pending := none, fn, tmps := a.tmps, params := ps, assign := as, body := bd, defers := w.heap.size }) := rfl
 have hlow : ∀ k, k < w.heap.size → w2.heap[k]? = w.heap[k]? := fun k hk => by
  rw [hheap, Array.getElem?_push_lt (by simp; omega)]
  simp [Array.getElem_push, hk]
 have hat : w2.heap[w.heap.size + 1]? = some (.loop { state := .ready, pending := none, fn, tmps := a.tmps, params := ps, assign := as, body := bd, defers := w.heap.size }) := by
  rw [hheap]
  have : w.heap.size + 1 = (w.heap.push (Obj.deferred (some []))).size := by simp
  rw [this, Array.getElem?_push_size]
 have heff : Eff ρ ρ2 w w2 st.h (looped nt fr ps.toList as bd st).h [] := by
  refine ⟨hle, ?_, rfl, rfl, rfl, by rw [hheap]; simp; omega, fun k hk _ => hlow k hk, by simp [looped], fun id hid _ => by simp only [looped]; rw [List.getElem?_append_left hid], fun _ h => by simp at h, ?_⟩
  ·intro id l hl
   simp only [ρ2, upd] at hl
   split at hl
   ·rename_i e; exact .inr (by simp [looped]; omega)
   ·exact .inl hl
  ·intro id h1 h2
   simp [looped] at h2
   obtain rfl : id = st.h.length := by omega
   refine ⟨_, .loop false nt fr ps.toList as bd, upd_at _ _ _, by simp [looped], ⟨_, hat, rfl, rfl, rfl, rfl, rfl, hf.size, hps, fun i => (hf.rel i).mono hle⟩, .inl (by simp)⟩
 obtain ⟨q1, q2⟩ := hS.eff (st' := looped nt fr ps.toList as bd st) heff (fun k hk => by simp at hk) (Nat.le_refl _) (by simp [looped]) (fun id h1 o ho => by
  have : id = st.h.length := by
   have := (List.getElem?_eq_some_iff.1 ho).1
   simp [looped] at this
   omega
  subst this
  simp [looped] at ho
  subst ho
  rfl) (RoKept.snoc rfl)
 ·refine ⟨q1, q2, ?_, fun id l hl e => ?_⟩
  ·rw [hheap, Array.getElem?_push_lt (by simp)]
   simp
  ·simp only [ρ2, upd] at hl
   split at hl
   ·obtain rfl := Option.some.inj hl
    simp at e
   ·have h1 : l.b < w.heap.size ∨ hp st.h id = .dead := by
     by_cases hr : (hp st.h id).ro = true
     ·exact .inl (Nat.lt_of_lt_of_le (hS.mem.ro id l hl hr) hS.mem.base)
     ·exact .inl (hS.mem.own id l hl (by simpa using hr)).2
    rcases h1 with h1 | h1
    ·omega
    ·have := (hS.mem.own id l hl (by rw [h1]; rfl)).2; omega
theorem putAll_rel {nt : Nat} : ∀ (ps : List Nat) (args args' : List Value) (fr : Fr) (tmps : Array Value), nt ≤ tmps.size → (∀ i, VRel ρ (get fr i) (tmps.getD i undef)) → (∀ p ∈ ps, p < nt) → LRel ρ args args' →
  FRel [] ρ nt (putAll fr ps args) { tmps := (ps.zip args').foldl (fun tmps (x : Tmp × Value) => tmps.setIfInBounds x.1 x.2) tmps, defers := [] } := by
 intro ps
 induction ps with
 | nil => intro args args' fr tmps h1 h2 _ _; cases args <;> exact ⟨h1, h2, rfl⟩
 | cons p ps ih =>
  intro args args' fr tmps h1 h2 h3 h4
  cases args with
  | nil =>
   have : args' = [] := by have := h4.1; simpa using this.symm
   subst this
   exact ⟨h1, h2, rfl⟩
  | cons x args =>
   obtain ⟨y, ys, rfl, hv, ht⟩ := h4.uncons
   have hf : FRel [] ρ nt fr { tmps := tmps, defers := [] } := ⟨h1, h2, rfl⟩
   have hp := hf.putD (d := some p) (fun x e => by obtain rfl := Option.some.inj e; exact h3 p (by simp)) hv
   exact ih args ys _ _ hp.size hp.rel (fun q hq => h3 q (by simp [hq])) ht
end Go.Ai
namespace Go.Ai
open Go.RowKit
variable {P : Program} {ρ ρ' : RM} {w w' : World} {D : List Deferred}
theorem resOne_ok {B nt : Nat} {st : St} {fr : Fr} {a : Act} {rv : ResultVar} {r : RRes} {v : Value} (hc : cres P rv = some r) (hf : FRel D ρ nt fr a) (hS : SRel B ρ w st) (h : resOne fr st.h r = some v) :
  ∃ v', ((match rv with | .tmp t => pure (a.tmps.getD t undef) | .cell c t => do loadVar t (← asAddr (a.tmps.getD c undef)) : Sem Value)).run P w = .ok v' w ∧ VRel ρ v v' := by
 cases rv with
 | tmp t =>
  simp only [cres, Option.some.injEq] at hc
  subst hc
  simp only [resOne, Option.some.injEq] at h
  subst h
  exact ⟨_, rfl, hf.rel t⟩
 | cell c t =>
  simp only [cres, Option.map_eq_some_iff] at hc
  obtain ⟨n, hn, rfl⟩ := hc
  simp only [resOne] at h
  split at h
  ·rename_i b i hg
   have hv := hf.rel c
   rw [hg] at hv
   obtain ⟨L, hL, hreal⟩ := hv.inv_ptr
   have hm : ∀ o, st.h[b]? = some o → CRel ρ w L o := fun o ho => by
    have := hS.mem.rel b L hL
    rw [hp_some ho] at this
    exact this
   obtain ⟨v', h1, h2⟩ := load_ok (P := P) (w := w) (v := v) hn hL hm hv (by cases n <;> exact h)
   refine ⟨v', ?_, h2⟩
   simp only [hreal] at h1 ⊢
   simpa [Instr.loadAt, Sem.run_bind, asAddr, Instr.sureAddr] using h1
  ·cases h
def retV : List Value → Value
 | [v] => v
 | vs => .tuple vs.toArray
theorem results_ok {B nt : Nat} {st : St} {fr : Fr} {a : Act} {fn : Func} {rs : List RRes} {v : Value} (hc : fn.results.toList.mapM (cres P) = some rs) (hf : FRel D ρ nt fr a) (hS : SRel B ρ w st) (h : resV fr st.h rs = some v) :
  ∃ v', (results fn a.tmps).run P w = .ok v' w ∧ VRel ρ v v' := by
 have key : ∀ (l : List ResultVar) (rs : List RRes) (vs : List Value), l.mapM (cres P) = some rs → resAll fr st.h rs = some vs →
   ∃ vs', (l.mapM (fun rv => (match rv with | .tmp t => pure (a.tmps.getD t undef) | .cell c t => do loadVar t (← asAddr (a.tmps.getD c undef)) : Sem Value)) : Sem (List Value)).run P w = .ok vs' w ∧ LRel ρ vs vs' := by
  intro l
  induction l with
  | nil =>
   intro rs vs h1 h2
   simp at h1
   subst h1
   simp only [resAll, Option.some.injEq] at h2
   subst h2
   exact ⟨[], rfl, LRel.nil ρ⟩
  | cons rv l ih =>
   intro rs vs h1 h2
   simp only [List.mapM_cons, bind, Option.bind_eq_some_iff, pure, Option.some.injEq] at h1
   obtain ⟨r, hr, rs', hrs, rfl⟩ := h1
   simp only [resAll] at h2
   split at h2
   ·rename_i v0 vs0 hv0 hvs0
    obtain rfl := Option.some.inj h2
    obtain ⟨v', q1, q2⟩ := resOne_ok hr hf hS hv0
    obtain ⟨vs', q3, q4⟩ := ih rs' vs0 hrs hvs0
    refine ⟨v' :: vs', ?_, LRel.cons q2 q4⟩
    rw [List.mapM_cons, Sem.run_bind, q1, Result.andThen_ok, Sem.run_bind, q3, Result.andThen_ok, Sem.run_pure]
   ·cases h2
 unfold resV at h
 have hall : ∃ vs, resAll fr st.h rs = some vs ∧ v = retV vs := by
  cases hr : resAll fr st.h rs with
  | none => simp [hr] at h
  | some vs =>
   rw [hr] at h
   refine ⟨vs, rfl, ?_⟩
   match vs, h with
   | [], h => exact (Option.some.inj h).symm
   | [x], h => exact (Option.some.inj h).symm
   | x :: y :: l, h => exact (Option.some.inj h).symm
 obtain ⟨vs, hvs, rfl⟩ := hall
 obtain ⟨vs', q1, q2⟩ := key _ _ _ hc hvs
 refine ⟨retV vs', ?_, ?_⟩
 ·have e : results fn a.tmps = (do
    let vs ← fn.results.mapM (fun rv => (match rv with | .tmp t => pure (a.tmps.getD t undef) | .cell c t => do loadVar t (← asAddr (a.tmps.getD c undef)) : Sem Value))
    pure (if h : vs.size = 1 then vs[0] else .tuple vs)) := by
   unfold results
   congr 2
  rw [e, Array.mapM_eq_mapM_toList, map_eq_pure_bind]
  simp only [Sem.run_bind, q1, Result.andThen_ok, Sem.run_pure]
  have hgen : ∀ l : List Value, (if h : l.toArray.size = 1 then l.toArray[0] else Value.tuple l.toArray) = retV l := by
   intro l
   match l with
   | [] => rfl
   | [x] => rfl
   | x :: y :: l => simp [retV]
  rw [hgen]
 ·match vs, vs', q2 with
  | [], [], q => exact VRel.tuple' q
  | [x], [y], q => exact q.2 0 x y rfl rfl
  | x :: y :: l, x' :: y' :: l', q => exact VRel.tuple' q
  | [], _ :: _, q => have := q.1; simp at this
  | [x], [], q => have := q.1; simp at this
  | [x], _ :: _ :: _, q => have := q.1; simp at this
  | _ :: _ :: _, [], q => have := q.1; simp at this
  | _ :: _ :: _, [_], q => have := q.1; simp at this
structure EnvOk (F : Fence) (P : Program) (B : Nat) (E : Env) : Prop where
 code : ∀ f rf, E.F f = some rf → compileF P f = some rf ∧ Callable P f
 sums : ∀ f s, E.S f = some s → Callable P f ∧ ∀ args st o st', s args st = some (o, st') → st.fl = st.h.length → ∀ n ρ w args', LRel ρ args args' → SRel B ρ w st →
  CallsIn F n P f args'.toArray w (CPost B ρ w st fun o2 st2 => o2 = o ∧ st2 = st')
 lt : ∀ f s, E.S f = some s → f < yB
 cmp : ∀ nt c r, E.cmp nt c = some r → compile P nt c = some r ∧ noRange r = true
theorem target_lt {v : Value} {args vs : List Value} {g : FuncId} (h : target v args = some (g, vs)) (hy : ¬ isY v = true) : g < yB := by
 unfold target at h
 split at h
 ·split at h
  ·rename_i hlt
   simp only [Option.some.injEq, Prod.mk.injEq] at h
   rw [← h.1]; exact hlt
  ·cases h
 ·simp [isY] at hy
 ·cases h
def CallsOkD (F : Fence) (P : Program) (B : Nat) (call : CallF) : Prop :=
 ∀ f args st o st', call f args st = some (o, st') → f < yB → Callable P f ∧ (st.fl = st.h.length → ∀ n ρ w args', LRel ρ args args' → SRel B ρ w st → CallsIn F n P f args'.toArray w (CPost B ρ w st fun o2 st2 => o2 = o ∧ st2 = st'))
def DrawOk (F : Fence) (P : Program) (B : Nat) (K : CallF → Prop) : Prop :=
 ∀ (call : CallF), CallsOkD F P B call → K call → ∀ {D : List Deferred} (n nt id : Nat) (ops : Array Oper) (l : List ROper) (fr : Fr) (st : St) (e : Ex) (fr' : Fr) (st' : St) (a : Act) (w : World) (ρ : RM) (Q' : Exit → Act → World → Prop),
  cops P nt ops true = some l → runOpsD call 0 [] l fr st = some (e, fr', st') → FRel D ρ nt fr a → SRel B ρ w st →
  (∀ ρ' a' w', FRel D ρ' nt fr' a' → SRel B ρ' w' st' → Ran B ρ ρ' w w' st st' → Q' .normal a' w') → (Code.region id ops true).wpIn F n P Q' a w
theorem runOpsD_normal {call : CallF} : ∀ (l : List ROper) (i : Nat) (acc : List (Nat × FP)) (fr : Fr) (st : St) (e : Ex) (fr' : Fr) (st' : St), runOpsD call i acc l fr st = some (e, fr', st') → e = .normal := by
 intro l
 induction l with
 | nil => intro i acc fr st e fr' st' h; simp only [runOpsD, Option.some.injEq, Prod.mk.injEq] at h; exact h.1.symm
 | cons o os ih =>
  intro i acc fr st e fr' st' h
  simp only [runOpsD] at h
  split at h
  ·split at h
   ·split at h
    ·cases h
    ·exact ih _ _ _ _ _ _ _ h
   ·cases h
  ·exact ih _ _ _ _ _ _ _ h
theorem callsOkD_of {F : Fence} {B : Nat} {E : Env} {m : Nat} (h : CallsOk F P B (callP E m)) : CallsOkD F P B (callSig E.S (callOf E (exec E m))) := by
 intro f args st o st' hc hf
 exact (h f args st (fun o2 st2 => o2 = o ∧ st2 = st') (sig_of (fun r fr st Q e fr' st' => runP_of m r fr st Q e fr' st') hc ⟨rfl, rfl⟩)).2 hf
def RunOk (F : Fence) (P : Program) (B : Nat) (E : Env) (m : Nat) : Prop :=
 ∀ {D : List Deferred} (n nt : Nat) (c : Code) (R : R) (fr : Fr) (st : St) (Q : Ex → Fr → St → Prop) (a : Act) (w : World) (ρ : RM) (Q' : Exit → Act → World → Prop),
  (F.round = none ∨ noRange R = true) → compile P nt c = some R → runP E m R fr st Q → FRel D ρ nt fr a → SRel B ρ w st →
  (∀ ex fr' st' ρ' e a' w' D', Q ex fr' st' → XRel ρ' ex e → FRel D' ρ' nt fr' a' → SRel B ρ' w' st' → Ran B ρ ρ' w w' st st' → Marks w.heap.size ρ' w' D D' → Q' e a' w') → c.wpIn F n P Q' a w
theorem args_frame {nt : Nat} {args : List Value} {args' : List Value} (h : LRel ρ args args') : FRel [] ρ nt args { tmps := args'.toArray ++ Array.replicate (nt - args'.toArray.size) undef, defers := [] } := by
 refine ⟨by simp; omega, fun i => ?_, rfl⟩
 show VRel ρ (get args i) ((args'.toArray ++ Array.replicate (nt - args'.toArray.size) undef).getD i undef)
 rw [Array.getD_eq_getD_getElem?]
 unfold get
 rw [List.getD_eq_getElem?_getD]
 by_cases hi : i < args.length
 ·obtain ⟨b, hb, hv⟩ := h.get (List.getElem?_eq_getElem hi)
  have hi' : i < args'.length := by rw [← h.1]; exact hi
  rw [Array.getElem?_append_left (by simpa using hi'), List.getElem?_eq_getElem hi]
  simp only [List.getElem?_toArray, hb, Option.getD_some]
  exact hv
 ·rw [List.getElem?_eq_none (by omega)]
  have : ((args'.toArray ++ Array.replicate (nt - args'.toArray.size) undef)[i]?).getD undef = undef := by
   rw [Array.getElem?_append_right (by simp; have := h.1; omega)]
   cases hq : (Array.replicate (nt - args'.toArray.size) undef)[i - args'.toArray.size]? with
   | none => rfl
   | some x =>
    obtain ⟨_, hx⟩ := Array.getElem?_eq_some_iff.1 hq
    simp at hx
    simp [← hx]
  rw [this]
  exact VRel.undef_ ρ
theorem round_ok {F : Fence} (hF : Open F) {B : Nat} {E : Env} (hE : EnvOk F P B E) {m : Nat} (h : ∀ l, RunOk (F.inRound l) P B E m) {k : Nat} {args args' : List Value} {st : St} {Q : Out → St → Prop} {l : Loc}
  (hc : callPY E (runP E m) k args st Q) (hl : ρ k = some l) (hargs : LRel ρ args args') (hS : SRel B ρ w st) :
  ∃ lf tmps as bd, (Instr.yield l.b args'.toArray).run P w = .ok (.round l.b lf tmps as bd) w ∧ ∀ n, RoundIn F n P l.b lf tmps as bd w (CPost B ρ w st Q) := by
 unfold callPY at hc
 split at hc
 ·rename_i b nt fr ps as bd hk
  obtain ⟨hlen, hc⟩ := hc
  split at hc
  ·rename_i ra rb ha hb
   obtain ⟨r, h1, _, _, h4, rfl, rfl, h7, h8, h9⟩ := loop_at hS hl hk
   have hsz : args'.toArray.size = r.params.size := by
    have := hargs.1
    have h5 : r.params.size = ps.length := by rw [← h4]; simp
    simp only [List.size_toArray]
    omega
   refine ⟨_, _, _, _, run_yield h1 hsz, fun n => roundIn_of_wpIn (hF.fn _) ?_⟩
   have hfr := putAll_rel ps args args' fr r.tmps h7 h9 h8 hargs
   have htm : (r.params.zip args'.toArray).foldl (fun tmps (x : Tmp × Value) => tmps.setIfInBounds x.1 x.2) r.tmps = (ps.zip args').foldl (fun tmps (x : Tmp × Value) => tmps.setIfInBounds x.1 x.2) r.tmps := by
    rw [← Array.foldl_toList, Array.toList_zip, ← h4]
   rw [← htm] at hfr
   obtain ⟨ca, na⟩ := hE.cmp _ _ _ ha
   obtain ⟨cb, nb⟩ := hE.cmp _ _ _ hb
   refine h l.b n nt _ ra _ st _ _ w ρ _ (.inr na) ca hc hfr hS fun ex fr1 st1 ρ1 e a1 w1 D1 hq hx hf1 hS1 hr1 _ => ?_
   obtain ⟨rfl, st2, ht, hq⟩ := hq
   cases e <;> simp only [XRel] at hx
   obtain ⟨r1, g1, g2, g3⟩ := turn_ok hS1 (hr1.le _ _ hl) ht
   obtain ⟨hS2, hr2⟩ := g3 _ (.inr rfl)
   refine ⟨_, run_beginRound g1 g2, ?_⟩
   refine h l.b n nt _ rb _ st2 _ _ _ ρ1 _ (.inr nb) cb hq hf1 hS2 fun ex fr3 st3 ρ3 e a3 w3 D3 hq3 hx3 hf3 hS3 hr3 _ => ?_
   obtain ⟨rfl, st4, ht4, hq4⟩ := hq3
   cases e <;> simp only [XRel] at hx3
   obtain ⟨r3, k1, k2, k3⟩ := turn_ok hS3 (hr3.le _ _ (hr1.le _ _ hl)) ht4
   obtain ⟨hS4, hr4⟩ := k3 _ (.inl rfl)
   exact ⟨_, _, run_endRound none k1, .bool true, st4, ρ3, hq4, .flat rfl rfl, hS4, (hr1.trans hr2).trans (hr3.trans hr4)⟩
  ·exact hc.elim
 ·exact hc.elim
theorem callsOk_of {F : Fence} (hF : Open F) (hro : F.round = none) {B : Nat} {E : Env} (hE : EnvOk F P B E) {m : Nat} (h : RunOk F P B E m) (hin : ∀ l, RunOk (F.inRound l) P B E m) : CallsOk F P B (callP E m) := by
 intro f args st Q hc
 unfold callP callPSig at hc
 split at hc
 ·rename_i sm hsm
  have hlt := hE.lt f sm hsm
  refine ⟨fun hge => absurd hlt (Nat.not_lt.2 hge), fun _ => ?_⟩
  split at hc
  ·rename_i o st' hs
   obtain ⟨hcb, hok⟩ := hE.sums f sm hsm
   refine ⟨hcb, fun hfl n ρ w args' hargs hS => ?_⟩
   refine (hok args st o st' hs hfl n ρ w args' hargs hS).mono fun e w' he => ?_
   cases e with
   | returned v' => obtain ⟨v, st1, ρ1, ⟨h1, rfl⟩, h2⟩ := he; exact ⟨v, st1, ρ1, h1 ▸ hc, h2⟩
   | panicked chain => obtain ⟨v, v', st1, ρ1, ⟨h1, rfl⟩, h2⟩ := he; exact ⟨v, v', st1, ρ1, h1 ▸ hc, h2⟩
   | outgrown => exact he.elim
  ·exact hc.elim
 ·unfold callPOf at hc
  split at hc
  ·rename_i hge
   exact ⟨fun _ ρ w args' l hl hargs hS => round_ok hF hE hin hc hl hargs hS, fun hlt => absurd hlt (Nat.not_lt.2 hge)⟩
  rename_i hnge
  refine ⟨fun hge => absurd hge hnge, fun _ => ?_⟩
  split at hc
  ·exact hc.elim
  ·rename_i rf hrf
   obtain ⟨hcomp, hcb⟩ := hE.code f rf hrf
   refine ⟨hcb, fun hfl n ρ w args' hargs hS => ?_⟩
   unfold compileF at hcomp
   split at hcomp
   ·rename_i fn hfn
    split at hcomp
    ·rename_i c hbody
     split at hcomp
     ·rename_i r rs hr hrs
      obtain rfl := Option.some.inj hcomp
      refine callsIn_of_wp_marks hfn hbody (hF.fn f) ?_ hro
      refine h n fn.ntmps c r args st _ _ w ρ _ (.inl hro) hr hc (args_frame hargs) hS fun ex fr' st' ρ' e a' w1 D' hq hx hf' hS1 hran1 hmk => ?_
      obtain ⟨rs', hD, hnd, hall⟩ := hmk
      rw [List.append_nil] at hD
      have hleave : ∀ u : FrameMode, u ≠ .run → (∀ w', SRel B ρ' w' st' → Ran B ρ ρ' w w' st st' → LeavesIn F n P fn a'.tmps (CPost B ρ w st Q) [] u w') → LeavesInM F n P fn a'.tmps (CPost B ρ w st Q) a'.defers u w1 := fun u hu hk => by
       rw [hf'.defers, hD]
       exact marks_leave hu rs' w1 hnd (fun r hm => (hall r hm).2.1) fun w' ho =>
        hk w' (hS1.offside ho fun r hm => (hall r hm).2.2) (hran1.offside ho (fun r hm => (hall r hm).1) hS.mem.base)
      -- back from the call
      have hback : ∀ w', SRel B ρ' w' st' → Ran B ρ ρ' w w' st st' → ∀ (o : Out), ((back st o st').1 = o) ∧ ∃ ρ2, SRel B ρ2 w' (back st o st').2 ∧ Ran B ρ ρ2 w w' st (back st o st').2 ∧ ∀ v v', (o = .ret v ∨ o = .pan v) → VRel ρ' v v' → VRel ρ2 v v' := fun w' hS' hran o => by
       unfold back
       split
       ·rename_i hcond
        simp only [Bool.and_eq_true, decide_eq_true_eq] at hcond
        have hst : ({ st with fl := st.h.length } : St) = st := by rw [← hfl]
        obtain ⟨b1, b2⟩ := hS.back (by rw [hst]; exact hran) hcond.2
        refine ⟨rfl, ρ, b1, b2, fun v v' ho hv => ?_⟩
        have hsc : Ai.scalar v = true := by rcases ho with rfl | rfl <;> exact hcond.1
        exact hv.scalar' hsc ρ
       ·exact ⟨rfl, ρ', hS', hran, fun v v' _ hv => hv⟩
      cases ex with
      | normal =>
       cases e <;> simp only [XRel] at hx
       obtain ⟨v, hv, hqq⟩ := hq
       refine hleave .returning (by simp) fun w' hS' hran => ?_
       obtain ⟨v', h1, h2⟩ := results_ok hrs hf' hS' hv
       obtain ⟨e1, ρ2, b1, b2, b3⟩ := hback w' hS' hran (.ret v)
       rw [e1] at hqq
       exact ⟨v', h1, v, _, ρ2, hqq, b3 v v' (.inl rfl) h2, b1, b2⟩
      | ret =>
       cases e <;> simp only [XRel] at hx
       obtain ⟨v, hv, hqq⟩ := hq
       refine hleave .returning (by simp) fun w' hS' hran => ?_
       obtain ⟨v', h1, h2⟩ := results_ok hrs hf' hS' hv
       obtain ⟨e1, ρ2, b1, b2, b3⟩ := hback w' hS' hran (.ret v)
       rw [e1] at hqq
       exact ⟨v', h1, v, _, ρ2, hqq, b3 v v' (.inl rfl) h2, b1, b2⟩
      | pan v =>
       cases e <;> simp only [XRel] at hx
       obtain ⟨v', h2, rfl⟩ := hx
       refine hleave _ (by simp) fun w' hS' hran => ?_
       obtain ⟨e1, ρ2, b1, b2, b3⟩ := hback w' hS' hran (.pan v)
       have hqq : Q (back st (.pan v) st').1 (back st (.pan v) st').2 := hq
       rw [e1] at hqq
       exact ⟨v, v', _, ρ2, hqq, b3 v v' (.inr rfl) h2, rfl, b1, b2⟩
      | exit id => exact hq.elim
     ·cases hcomp
    ·cases hcomp
   ·cases hcomp
end Go.Ai
namespace Go.Ai
open Go.RowKit
variable {P : Program} {ρ ρ' : RM} {w w' : World} {D : List Deferred}
theorem loop_rounds {F : Fence} {B : Nat} {E : Env} : ∀ (m : Nat), (∀ j, j < m → RunOk F P B E j) → ∀ {D : List Deferred} (n nt : Nat) (c : Code) (R : R) (fr : Fr) (st : St) (Q : Ex → Fr → St → Prop) (a : Act) (w : World) (ρ : RM) (Q' : Exit → Act → World → Prop),
  (F.round = none ∨ noRange R = true) → compile P nt c = some R → runP E m (.loop R) fr st Q → FRel D ρ nt fr a → SRel B ρ w st →
  (∀ ex fr' st' ρ' e a' w' D', Q ex fr' st' → XRel ρ' ex e → FRel D' ρ' nt fr' a' → SRel B ρ' w' st' → Ran B ρ ρ' w w' st st' → Marks w.heap.size ρ' w' D D' → Q' e a' w') → Code.roundsIn F n P c Q' m a w := by
 intro m
 induction m with
 | zero => intro _ D n nt c R fr st Q a w ρ Q' _ hc hr; exact hr.elim
 | succ m ih =>
  intro hR D n nt c R fr st Q a w ρ Q' hno hc hr hf hS hQ
  rw [roundsIn_succ]
  refine hR m (Nat.lt_succ_self m) n nt c R fr st _ a w ρ _ hno hc hr hf hS fun ex fr' st' ρ' e a' w' D' hq hx hf' hS' hran hmk => ?_
  cases ex with
  | normal =>
   cases e <;> simp only [XRel] at hx
   exact ih (fun j hj => hR j (Nat.lt_succ_of_lt hj)) n nt c R fr' st' Q a' w' ρ' Q' hno hc hq hf' hS' fun ex fr2 st2 ρ2 e a2 w2 D2 q1 q2 q3 q4 q5 q6 => hQ ex fr2 st2 ρ2 e a2 w2 D2 q1 q2 q3 q4 (hran.trans q5) (hmk.trans q5 q6 hran.size)
  | exit id => cases e <;> simp only [XRel] at hx; exact hQ (.exit id) fr' st' ρ' _ a' w' D' hq hx hf' hS' hran hmk
  | ret => cases e <;> simp only [XRel] at hx; exact hQ .ret fr' st' ρ' _ a' w' D' hq trivial hf' hS' hran hmk
  | pan v => cases e <;> simp only [XRel] at hx; exact hQ (.pan v) fr' st' ρ' _ a' w' D' hq hx hf' hS' hran hmk
theorem runOk_all {F : Fence} (hF : Open F) (hro : F.round = none) {B : Nat} {E : Env} (hE : EnvOk F P B E) {K : CallF → Prop} (hK : ∀ m, K (callSig E.S (callOf E (exec E m)))) (hD : ∀ o, DrawOk { F with round := o } P B K) : ∀ m (o : Option Nat), RunOk { F with round := o } P B E m := by
 intro m
 induction m using Nat.strongRecOn with
 | ind m ihm =>
 intro o
 cases m with
 | zero => intro D n nt c R fr st Q a w ρ Q' _ hc hr; exact hr.elim
 | succ m =>
  have hF' : Open { F with round := o } := ⟨hF.fn, hF.depth⟩
  have ih : RunOk { F with round := o } P B E m := ihm m (Nat.lt_succ_self m) o
  have hFn : ({ F with round := none } : Fence) = F := by rw [← hro]
  have h0 : RunOk { F with round := none } P B E m := ihm m (Nat.lt_succ_self m) none
  rw [hFn] at h0
  have hcalls0 : CallsOk F P B (callP E m) := callsOk_of hF hro hE h0 (fun l => ihm m (Nat.lt_succ_self m) (some l))
  have hcalls : CallsOk { F with round := o } P B (callP E m) := hcalls0
  intro D n nt c R fr st Q a w ρ Q' hno hc hr hf hS hQ
  cases c <;> simp only [compile] at hc
  all_goals first | (cases hc; done) | skip
  case skip =>
   obtain rfl := Option.some.inj hc
   exact wpIn_skip (hQ .normal fr st ρ .normal a w D hr trivial hf hS (Ran.refl B ρ w st) (Marks.refl _ _ _ _))
  case exit id =>
   obtain rfl := Option.some.inj hc
   exact wpIn_exit (hQ (.exit id) fr st ρ (.exit id) a w D hr rfl hf hS (Ran.refl B ρ w st) (Marks.refl _ _ _ _))
  case ret =>
   obtain rfl := Option.some.inj hc
   exact wpIn_ret (hQ .ret fr st ρ .ret a w D hr trivial hf hS (Ran.refl B ρ w st) (Marks.refl _ _ _ _))
  case seq c1 c2 =>
   split at hc
   ·rename_i r1 r2 h1 h2
    obtain rfl := Option.some.inj hc
    have hn2 : (o = none ∨ noRange r1 = true) ∧ (o = none ∨ noRange r2 = true) := by
     rcases hno with hno | hno
     ·exact ⟨.inl hno, .inl hno⟩
     ·simp only [noRange, Bool.and_eq_true] at hno; exact ⟨.inr hno.1, .inr hno.2⟩
    refine wpIn_seq (ih n nt c1 r1 fr st _ a w ρ _ hn2.1 h1 hr hf hS fun ex fr' st' ρ' e a' w' D' hq hx hf' hS' hran hmk => ?_)
    cases ex with
    | normal =>
     cases e <;> simp only [XRel] at hx
     exact ih n nt c2 r2 fr' st' Q a' w' ρ' Q' hn2.2 h2 hq hf' hS' fun ex fr2 st2 ρ2 e a2 w2 D2 q1 q2 q3 q4 q5 q6 => hQ ex fr2 st2 ρ2 e a2 w2 D2 q1 q2 q3 q4 (hran.trans q5) (hmk.trans q5 q6 hran.size)
    | exit id => cases e <;> simp only [XRel] at hx; exact hQ (.exit id) fr' st' ρ' _ a' w' D' hq hx hf' hS' hran hmk
    | ret => cases e <;> simp only [XRel] at hx; exact hQ .ret fr' st' ρ' _ a' w' D' hq trivial hf' hS' hran hmk
    | pan v => cases e <;> simp only [XRel] at hx; exact hQ (.pan v) fr' st' ρ' _ a' w' D' hq hx hf' hS' hran hmk
   ·cases hc
  case cond cnd c1 c2 =>
   split at hc
   ·rename_i r1 r2 h1 h2
    obtain rfl := Option.some.inj hc
    simp only [runP] at hr
    split at hr
    ·rename_i b hb
     have hcv : a.eval cnd = .bool b := by
      cases cnd with
      | tmp t => have := hf.rel t; rw [show get fr t = .bool b from hb] at this; exact this.bool
      | const v => exact hb
      | global g => simp [ev, undef] at hb
      | func f => simp [ev] at hb
     have hn2 : (o = none ∨ noRange r1 = true) ∧ (o = none ∨ noRange r2 = true) := by
      rcases hno with hno | hno
      ·exact ⟨.inl hno, .inl hno⟩
      ·simp only [noRange, Bool.and_eq_true] at hno; exact ⟨.inr hno.1, .inr hno.2⟩
     refine wpIn_cond hcv ?_
     cases b with
     | true => exact ih n nt c1 r1 fr st Q a w ρ Q' hn2.1 h1 hr hf hS hQ
     | false => exact ih n nt c2 r2 fr st Q a w ρ Q' hn2.2 h2 hr hf hS hQ
    ·exact hr.elim
   ·cases hc
  case block id c1 =>
   simp only [Option.map_eq_some_iff] at hc
   obtain ⟨r1, h1, rfl⟩ := hc
   refine wpIn_block (ih n nt c1 r1 fr st _ a w ρ _ hno h1 hr hf hS fun ex fr' st' ρ' e a' w' D' hq hx hf' hS' hran hmk => ?_)
   cases ex with
   | normal => cases e <;> simp only [XRel] at hx; exact hQ .normal fr' st' ρ' _ a' w' D' hq trivial hf' hS' hran hmk
   | exit id' =>
    cases e <;> simp only [XRel] at hx
    subst hx
    simp only [Exit.inBlock]
    by_cases hid : id' = id
    ·simp only [hid, if_true] at hq ⊢
     exact hQ .normal fr' st' ρ' _ a' w' D' hq trivial hf' hS' hran hmk
    ·simp only [hid, if_false] at hq ⊢
     exact hQ (.exit id') fr' st' ρ' _ a' w' D' hq rfl hf' hS' hran hmk
   | ret => cases e <;> simp only [XRel] at hx; exact hQ .ret fr' st' ρ' _ a' w' D' hq trivial hf' hS' hran hmk
   | pan v => cases e <;> simp only [XRel] at hx; exact hQ (.pan v) fr' st' ρ' _ a' w' D' hq hx hf' hS' hran hmk
  case loop c1 =>
   simp only [Option.map_eq_some_iff] at hc
   obtain ⟨r1, h1, rfl⟩ := hc
   exact wpIn_loop_rounds (m + 1) (loop_rounds (m + 1) (fun j hj => ihm j hj o) n nt c1 r1 fr st Q a w ρ Q' hno h1 hr hf hS hQ)
  case region id ops draw =>
   simp only [Option.map_eq_some_iff] at hc
   obtain ⟨l, hl, rfl⟩ := hc
   cases draw with
   | false =>
    refine wpIn_region ?_
    unfold cops at hl
    simp [bind, Option.bind_eq_some_iff, guardB] at hl
    exact runL_sound hF' hcalls (List.range ops.size) l fr st Q a w ρ Q' hl hr hf hS fun ex fr' st' ρ' e a' w' q1 q2 q3 q4 q5 => hQ ex fr' st' ρ' e a' w' D q1 q2 q3 q4 q5 (Marks.refl _ _ _ _)
   | true =>
    simp only [runP] at hr
    split at hr
    ·rename_i e fr' st' hx
     have he := runOpsD_normal _ _ _ _ _ _ _ _ hx
     subst he
     exact hD o _ (callsOkD_of hcalls) (hK m) n nt id ops l fr st .normal fr' st' a w ρ Q' hl hx hf hS fun ρ' a' w' q1 q2 q3 => hQ .normal fr' st' ρ' .normal a' w' D hr trivial q1 q2 q3 (Marks.refl _ _ _ _)
    ·exact hr.elim
  case rangeFunc g ps assign body =>
   split at hc
   ·rename_i hcond
    obtain rfl := Option.some.inj hc
    simp only [Bool.and_eq_true] at hcond
    have hps : ∀ p ∈ ps.toList, p < nt := fun p hp => by
     have := Array.all_eq_true_iff_forall_mem.1 hcond.2 p (Array.mem_toList_iff.1 hp)
     simpa using this
    have ho : o = none := by
     rcases hno with h | h
     ·exact h
     ·simp [noRange] at h
    subst ho
    simp only [runP] at hr
    split at hr
    ·rename_i f vs ht
     obtain ⟨hlt, hr⟩ := hr
     refine wpIn_rangeFunc fun fn _ => ?_
     obtain ⟨hS1, hr1, hcol, hun⟩ := looped_ok (fn := fn) (as := assign) (bd := body) hS hf hps
     -- the function's value
     have hgv := ev_rel hf hcond.1
     unfold target at ht
     split at ht
     ·rename_i g' first cap hfv
      split at ht
      ·simp only [Option.some.injEq, Prod.mk.injEq] at ht
       obtain ⟨rfl, rfl⟩ := ht
       rw [hfv] at hgv
       obtain ⟨rfl, cap', hcv, hcap⟩ := hgv.inv_func
       obtain ⟨hcb, hcall⟩ := (hcalls0 _ _ _ _ hr).2 hlt
       have hargs : LRel (upd ρ st.h.length ⟨w.heap.size + 1, 0, 0, 0⟩) ((#[] : Array Value).toList ++ [tok st.h.length] ++ cap.toList) ((#[.func (.yield (w.heap.size + 1)) #[] #[]] : Array Value) ++ cap').toList := by
        have h1 : LRel (upd ρ st.h.length ⟨w.heap.size + 1, 0, 0, 0⟩) [tok st.h.length] [.func (.yield (w.heap.size + 1)) #[] #[]] := LRel.cons (VRel.yld (upd_at _ _ _)) (LRel.nil _)
        simpa using h1.append (hcap.mono hr1.le)
       have hS1' := hS1.fl (st.h.length + 1)
       have hgo := hcall (by simp [looped]) (n - 1) _ _ _ hargs hS1'
       refine ⟨w.heap.size + 1, [mark w.heap.size], ((w.alloc (.deferred (some []))).alloc (.loop { state := .ready, pending := none, fn, tmps := a.tmps, params := ps, assign := assign, body := body, defers := w.heap.size })), { target := .fn (.func g') cap', args := #[.func (.yield (w.heap.size + 1)) #[] #[]] }, ((w.alloc (.deferred (some []))).alloc (.loop { state := .ready, pending := none, fn, tmps := a.tmps, params := ps, assign := assign, body := body, defers := w.heap.size })), g', (#[.func (.yield (w.heap.size + 1)) #[] #[]] : Array Value) ++ cap', ((w.alloc (.deferred (some []))).alloc (.loop { state := .ready, pending := none, fn, tmps := a.tmps, params := ps, assign := assign, body := body, defers := w.heap.size })),
        run_enterLoop_outer fn a.tmps ps assign body, ?_, fun f' _ => hF.fn f', ?_, fun h => absurd h (by rw [hF'.depth]; simp), hgo.mono fun e w3 he => ?_⟩
       ·have hconst : ∀ v, a.eval (.const v) = v := fun _ => rfl
        simp [rangeCall, resolve, hcv, Deferred.ofValue, hconst]
       ·simp [invoke, run_callFunc hcb]
       ·cases e with
        | returned v' =>
         obtain ⟨v, st2, ρ2, h1, h2, h3, h4⟩ := he
         obtain ⟨st3, hov, hq⟩ := h1
         have hlen : st.h.length + 1 = (looped nt fr ps.toList assign body st).h.length := by simp [looped]
         rw [hlen] at h4
         have hj := h4.joined hS1.full
         have hSj : SRel B ρ2 w3 (joined (looped nt fr ps.toList assign body st) st2) := ⟨h3.mem, h3.full⟩
         obtain ⟨r, k1, k2, k3, k4⟩ := over_ok hSj (hj.le _ _ (upd_at _ _ _)) hov
         obtain ⟨hS3, hr3⟩ := k4 (.loop { r with state := .exhausted })
         refine ⟨none, w3.putObj (w.heap.size + 1) (.loop { r with state := .exhausted }), ?_, ?_⟩
         ·have := run_endLoop (P := P) k1 (by rw [k2]; simp)
          exact this.trans (by rw [k3])
         ·have hran := (hr1.trans hj).trans hr3
          have hmk : Marks w.heap.size (upd ρ st.h.length ⟨w.heap.size + 1, 0, 0, 0⟩) ((w.alloc (.deferred (some []))).alloc (.loop { state := .ready, pending := none, fn, tmps := a.tmps, params := ps, assign := assign, body := body, defers := w.heap.size })) D ([mark w.heap.size] ++ D) :=
           ⟨[w.heap.size], rfl, by simp, fun r hr => by simp at hr; subst hr; exact ⟨Nat.le_refl _, hcol, hun⟩⟩
          refine hQ .normal fr st3 ρ2 .normal _ _ ([mark w.heap.size] ++ D) hq trivial ⟨hf.size, fun i => (hf.rel i).mono hran.le, by rw [← hf.defers]⟩ hS3 hran (hmk.ran (hj.trans hr3))
        | panicked chain =>
         obtain ⟨v, v', st2, ρ2, h1, _⟩ := he
         exact h1.elim
        | outgrown => exact he.elim
      ·cases ht
     ·simp only [Option.some.injEq, Prod.mk.injEq] at ht
      rw [← ht.1] at hlt
      exact absurd hlt (Nat.not_lt.2 (Nat.le_add_right _ _))
     ·cases ht
    ·exact hr.elim
   ·cases hc
theorem runOk {F : Fence} (hF : Open F) (hro : F.round = none) {B : Nat} {E : Env} (hE : EnvOk F P B E) {K : CallF → Prop} (hK : ∀ m, K (callSig E.S (callOf E (exec E m)))) (hD : ∀ o, DrawOk { F with round := o } P B K) (m : Nat) : RunOk F P B E m := by
 have this : RunOk { F with round := none } P B E m := runOk_all hF hro hE hK hD m none
 have hFn : ({ F with round := none } : Fence) = F := by rw [← hro]
 rwa [hFn] at this
end Go.Ai
namespace Go.Ai
open Go.RowKit
variable {P : Program} {ρ ρ' : RM} {w w' : World}
structure TStep (call : CallF) (r : ROper) (fr : Fr) (st : St) (v : Value) (fr1 : Fr) (st1 : St) (fp : FP) : Prop where
 put : fr1 = putD fr r.dst v
 act : (wanted fr r.guard = false ∧ v = undef ∧ st1 = st ∧ fp = {}) ∨ (wanted fr r.guard = true ∧ opD call r.op (ev fr) st = some (v, st1, fp))
structure Trace (call : CallF) (l : List ROper) (i0 : Nat) (frs : Nat → Fr) (sts : Nat → St) (fps : Nat → FP) (vs : Nat → Value) : Prop where
 step : ∀ k r, l[k]? = some r → TStep call r (frs k) (sts k) (vs k) (frs (k + 1)) (sts (k + 1)) (fps k)
 clash : ∀ j k r, j < k → l[k]? = some r → r.anc.testBit (i0 + j) = false → (fps j).clash (fps k) = false
theorem hits_empty (x : FP) : x.hits {} = false := by
 cases x
 simp [FP.hits, FP.touches]
theorem empty_hits (x : FP) : FP.hits {} x = false := by simp [FP.hits]
theorem clash_empty (x : FP) : x.clash {} = false := by simp [FP.clash, hits_empty, empty_hits]
theorem empty_clash (x : FP) : FP.clash {} x = false := by simp [FP.clash, hits_empty, empty_hits]
def consN {α : Type} (a : α) (f : Nat → α) : Nat → α
 | 0 => a
 | n + 1 => f n
def TraceTo (call : CallF) (l : List ROper) (i : Nat) (acc : List (Nat × FP)) (fr : Fr) (st : St) (fr' : Fr) (st' : St) : Prop :=
 ∃ frs sts fps vs, Trace call l i frs sts fps vs ∧ frs 0 = fr ∧ sts 0 = st ∧ frs l.length = fr' ∧ sts l.length = st' ∧
  ∀ k r, l[k]? = some r → ∀ q ∈ acc, r.anc.testBit q.1 = false → q.2.clash (fps k) = false
theorem trace_of {call : CallF} : ∀ (l : List ROper) (i : Nat) (acc : List (Nat × FP)) (fr : Fr) (st : St) (e : Ex) (fr' : Fr) (st' : St), runOpsD call i acc l fr st = some (e, fr', st') → TraceTo call l i acc fr st fr' st' := by
 intro l
 induction l with
 | nil =>
  intro i acc fr st e fr' st' h
  simp only [runOpsD, Option.some.injEq, Prod.mk.injEq] at h
  obtain ⟨_, rfl, rfl⟩ := h
  exact ⟨fun _ => fr, fun _ => st, fun _ => {}, fun _ => undef, ⟨fun k r h => by simp at h, fun j k r _ h => by simp at h⟩, rfl, rfl, rfl, rfl, fun k r h => by simp at h⟩
 | cons o os ih =>
  intro i acc fr st e fr' st' h
  simp only [runOpsD] at h
  -- what one operation brings
  have fin : ∀ (v : Value) (st1 : St) (fp : FP) (acc1 : List (Nat × FP)), TStep call o fr st v (putD fr o.dst v) st1 fp → (∀ q ∈ acc, o.anc.testBit q.1 = false → q.2.clash fp = false) → ((i, fp) ∈ acc1 ∨ fp = {}) → (∀ q ∈ acc, q ∈ acc1) →
    runOpsD call (i + 1) acc1 os (putD fr o.dst v) st1 = some (e, fr', st') → TraceTo call (o :: os) i acc fr st fr' st' := fun v st1 fp acc1 hst hcl hin hsub hrun => by
   obtain ⟨frs, sts, fps, vs, htr, h0, h1, h2, h3, h4⟩ := ih _ _ _ _ _ _ _ hrun
   refine ⟨consN fr frs, consN st sts, consN fp fps, consN v vs, ⟨?_, ?_⟩, rfl, rfl, h2, h3, ?_⟩
   ·intro k r hk
    cases k with
    | zero =>
     simp at hk; subst hk
     show TStep call o fr st v (frs 0) (sts 0) fp
     rw [h0, h1]; exact hst
    | succ k => exact htr.step k r (by simpa using hk)
   ·intro j k r hjk hk hanc
    cases k with
    | zero => omega
    | succ k =>
     cases j with
     | zero =>
      rcases hin with hin | rfl
      ·exact h4 k r (by simpa using hk) _ hin (by simpa using hanc)
      ·exact empty_clash _
     | succ j => exact htr.clash j k r (by omega) (by simpa using hk) (by rw [show i + 1 + j = i + (j + 1) by omega]; exact hanc)
   ·intro k r hk q hq hanc
    cases k with
    | zero => simp at hk; subst hk; exact hcl q hq hanc
    | succ k => exact h4 k r (by simpa using hk) q (hsub q hq) hanc
  split at h
  ·rename_i hw
   split at h
   ·rename_i v st1 fp hop
    split at h
    ·cases h
    ·rename_i hcl
     refine fin v st1 fp ((i, fp) :: acc) ⟨rfl, .inr ⟨hw, hop⟩⟩ ?_ (.inl (by simp)) (fun q hq => by simp [hq]) h
     intro q hq hanc
     simp only [clashes, List.any_eq_true, Bool.and_eq_true, Bool.not_eq_true', not_exists, not_and, Bool.not_eq_true] at hcl
     exact hcl q hq hanc
   ·cases h
  ·rename_i hw
   exact fin undef st {} acc ⟨rfl, .inl ⟨by simpa using hw, rfl, rfl, rfl⟩⟩ (fun q _ _ => clash_empty _) (.inr rfl) (fun q hq => hq) h
end Go.Ai
namespace Go.Ai
open Go.RowKit
variable {P : Program} {ρ ρ' : RM} {w w' : World}
def befVal (acc : Array Nat) (o : Oper) : Nat := o.after.foldl (fun s e => if Region.binds .any e then s ||| 2 ^ e.on ||| acc.getD e.on 0 else s) 0
def befStep (acc : Array Nat) (o : Oper) : Array Nat := acc.push (befVal acc o)
theorem before_eq (ops : Array Oper) : Region.before ops = ops.toList.foldl befStep #[] := by
 unfold Region.before
 rw [← Array.foldl_toList]
 rfl
theorem befStep_keep : ∀ (l : List Oper) (A : Array Nat) (k : Nat), k < A.size → (l.foldl befStep A).getD k 0 = A.getD k 0 := by
 intro l
 induction l with
 | nil => intro A k _; rfl
 | cons o l ih =>
  intro A k hk
  rw [List.foldl_cons, ih _ _ (by simp [befStep]; omega)]
  unfold befStep
  simp only [Array.getD_eq_getD_getElem?]
  rw [Array.getElem?_push_lt hk]
  simp [hk]
theorem befStep_size : ∀ (l : List Oper) (A : Array Nat), (l.foldl befStep A).size = A.size + l.length := by
 intro l
 induction l with
 | nil => intro A; rfl
 | cons o l ih => intro A; rw [List.foldl_cons, ih]; simp [befStep]; omega
theorem befVal_bit {acc : Array Nat} {o : Oper} {j : Nat} (h : (befVal acc o).testBit j = true) : ∃ e ∈ o.after, Region.binds .any e = true ∧ (e.on = j ∨ (acc.getD e.on 0).testBit j = true) := by
 have key : ∀ (l : List Edge) (s : Nat), (l.foldl (fun s e => if Region.binds .any e then s ||| 2 ^ e.on ||| acc.getD e.on 0 else s) s).testBit j = true →
   s.testBit j = true ∨ ∃ e ∈ l, Region.binds .any e = true ∧ (e.on = j ∨ (acc.getD e.on 0).testBit j = true) := by
  intro l
  induction l with
  | nil => intro s h; exact .inl h
  | cons e l ih =>
   intro s h
   rw [List.foldl_cons] at h
   rcases ih _ h with h1 | ⟨e', h1, h2⟩
   ·split at h1
    ·rename_i hb
     rw [Nat.testBit_or, Nat.testBit_or, Bool.or_eq_true, Bool.or_eq_true] at h1
     rcases h1 with (h1 | h1) | h1
     ·exact .inl h1
     ·rw [Nat.testBit_two_pow] at h1
      exact .inr ⟨e, by simp, hb, .inl (by simpa using h1)⟩
     ·exact .inr ⟨e, by simp, hb, .inr h1⟩
    ·exact .inl h1
   ·exact .inr ⟨e', by simp [h1], h2⟩
 unfold befVal at h
 rw [← Array.foldl_toList] at h
 rcases key _ _ h with h1 | ⟨e, h1, h2⟩
 ·simp at h1
 ·exact ⟨e, by simpa using h1, h2⟩
theorem before_spec {ops : Array Oper} {i j : Nat} {o : Oper} (ho : ops[i]? = some o) (h : ((Region.before ops).getD i 0).testBit j = true) :
  ∃ e ∈ o.after, Region.binds .any e = true ∧ (e.on = j ∨ ((Region.before ops).getD e.on 0).testBit j = true) := by
 have hi : i < ops.toList.length := by simpa using (Array.getElem?_eq_some_iff.1 ho).1
 have hoi : ops.toList[i] = o := by
  have := (Array.getElem?_eq_some_iff.1 ho).2
  simpa using this
 have hsplit : ops.toList = ops.toList.take i ++ o :: ops.toList.drop (i + 1) := by
  rw [← hoi]; exact (List.take_append_drop i ops.toList).symm.trans (by rw [List.drop_eq_getElem_cons hi])
 have hA : ((ops.toList.take i).foldl befStep #[]).size = i := by
  have hi' : i < ops.size := by simpa using hi
  rw [befStep_size]; simp; omega
 have hfin : Region.before ops = (ops.toList.drop (i + 1)).foldl befStep (befStep ((ops.toList.take i).foldl befStep #[]) o) := by
  rw [before_eq]
  conv => lhs; rw [hsplit]
  rw [List.foldl_append, List.foldl_cons]
 generalize (ops.toList.take i).foldl befStep #[] = A at hA hfin
 have hval : (Region.before ops).getD i 0 = befVal A o := by
  rw [hfin, befStep_keep _ _ _ (by simp [befStep, hA])]
  unfold befStep
  simp [Array.getD_eq_getD_getElem?, ← hA]
 rw [hval] at h
 obtain ⟨e, he, hb, h1⟩ := befVal_bit h
 refine ⟨e, he, hb, ?_⟩
 rcases h1 with h1 | h1
 ·exact .inl h1
 ·right
  by_cases hlt : e.on < A.size
  ·rw [hfin, befStep_keep _ _ _ (by simp [befStep]; omega)]
   unfold befStep
   simp only [Array.getD_eq_getD_getElem?]
   rw [Array.getElem?_push_lt hlt]
   simpa [Array.getD_eq_getD_getElem?, hlt] using h1
  ·simp [Array.getD_eq_getD_getElem?, Array.getElem?_eq_none (Nat.not_lt.1 hlt)] at h1
structure Kept (st st' : St) : Prop where
 fl : st'.fl ≤ st.fl
 len : st.h.length ≤ st'.h.length
 same : ∀ id, id < st.h.length → id < st'.fl → st'.h[id]? = st.h[id]?
theorem Kept.refl (st : St) : Kept st st := ⟨Nat.le_refl _, Nat.le_refl _, fun _ _ _ => rfl⟩
theorem Kept.trans {a b c : St} (h : Kept a b) (k : Kept b c) : Kept a c :=
 ⟨Nat.le_trans k.fl h.fl, Nat.le_trans h.len k.len, fun id h1 h2 => (k.same id (Nat.lt_of_lt_of_le h1 h.len) h2).trans (h.same id h1 (Nat.lt_of_lt_of_le h2 k.fl))⟩
structure KeptW (st st' : St) (ws : List Nat) : Prop where
 fl : st'.fl ≤ st.fl
 len : st.h.length ≤ st'.h.length
 same : ∀ id, id < st.h.length → id ∉ ws → st'.h[id]? = st.h[id]?
 low : ∀ id, id < st.h.length → id < st'.fl → st'.h[id]? = st.h[id]?
theorem KeptW.refl (st : St) (ws : List Nat) : KeptW st st ws := ⟨Nat.le_refl _, Nat.le_refl _, fun _ _ _ => rfl, fun _ _ _ => rfl⟩
theorem KeptW.snoc (st : St) (o : O) (ws : List Nat) : KeptW st { st with h := st.h ++ [o] } ws :=
 ⟨Nat.le_refl _, by simp, fun id h _ => List.getElem?_append_left h, fun id h _ => List.getElem?_append_left h⟩
theorem KeptW.set (st : St) {b : Nat} (o : O) {ws : List Nat} (hb : b ∈ ws) : KeptW st { st with h := st.h.set b o, fl := min st.fl b } ws := by
 refine ⟨Nat.min_le_left _ _, by simp, fun id _ hn => List.getElem?_set_ne (fun e => ?_), fun id _ hl => List.getElem?_set_ne (fun e => ?_)⟩
 ·subst e; exact hn hb
 ·subst e
  have h1 : b < min st.fl b := hl
  have h2 : min st.fl b ≤ b := Nat.min_le_right _ _
  omega
theorem KeptW.floor (st : St) {b : Nat} {ws : List Nat} : KeptW st { st with fl := min st.fl b } ws :=
 ⟨Nat.min_le_left _ _, Nat.le_refl _, fun _ _ _ => rfl, fun _ _ _ => rfl⟩
theorem KeptW.wr {st : St} {h' : List O} {b i : Nat} {vs : List Value} {ws : List Nat} (hw : wrN st.h b i vs = some h') (hb : b ∈ ws) : KeptW st { st with h := h', fl := min st.fl b } ws := by
 unfold wrN at hw
 split at hw
 ·split at hw
  ·obtain rfl := Option.some.inj hw
   exact KeptW.set st _ hb
  ·cases hw
 ·cases hw
theorem appendCells_kept {elem : TypeId} {size b sLen sCap n : Nat} {base : Option Addr} {new : List Value} {st st' : St} {v : Value} (ha : appendCells elem size b base sLen sCap n new st = some (v, st')) : KeptW st st' (blk (.slice base sLen sCap)) := by
 unfold appendCells at ha
 split at ha
 ·obtain ⟨rfl, rfl⟩ := Prod.mk.inj (Option.some.inj ha)
  exact KeptW.refl _ _
 ·split at ha
  ·split at ha
   ·simp only [bind, Option.bind_eq_some_iff, Option.some.injEq, Prod.mk.injEq] at ha
    obtain ⟨h1, hw, rfl, rfl⟩ := ha
    exact KeptW.wr hw (by simp [blk])
   ·cases ha
  ·split at ha
   ·simp only [bind, Option.bind_eq_some_iff, Option.some.injEq, Prod.mk.injEq] at ha
    obtain ⟨old, hold, st1, hkill, rfl, rfl⟩ := ha
    have hk : KeptW st st1 (blk (.slice base sLen sCap)) := by
     unfold kill at hkill
     (repeat' split at hkill) <;> first
      | (cases hkill; done)
      | (obtain rfl := Option.some.inj hkill; exact KeptW.refl _ _)
      | (obtain rfl := Option.some.inj hkill; exact KeptW.set st _ (by simp [blk]))
    have hs := KeptW.snoc st1 (.cells (old ++ new) elem (some size)) (blk (.slice base sLen sCap))
    exact ⟨Nat.le_trans hs.fl hk.fl, Nat.le_trans hk.len hs.len, fun id h1 h2 => (hs.same id (Nat.lt_of_lt_of_le h1 hk.len) h2).trans (hk.same id h1 h2), fun id h1 h2 => (hs.low id (Nat.lt_of_lt_of_le h1 hk.len) h2).trans (hk.low id h1 (Nat.lt_of_lt_of_le h2 hs.fl))⟩
   ·cases ha
end Go.Ai
