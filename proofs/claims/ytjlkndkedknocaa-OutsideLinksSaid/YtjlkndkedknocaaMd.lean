/- Texts that were built one by one: Ai24, Ai25, Ai26, Ai27, Ai28, AiG, Ai29, Ai30, AiN, AiM. -/
import Derived.Test.YtjlkndkedknocaaMc
import Derived.ChangeArms
import Derived.SizedLaws
import Derived.ChangeReads
import Derived.ChangeOld
import Derived.ChangeSame
import Derived.ChangeShapes
import Derived.RowKit
import Derived.DataShut
set_option linter.unusedSimpArgs false
set_option linter.unusedVariables false
namespace Go.Ai
open Go.RowKit
variable {P : Program} {ρ ρ' : RM} {w w' : World}
theorem step_kept {r : ROp} {e : Operand → Value} {st st' : St} {v : Value} (h : step r e st = some (.val v, st')) : KeptW st st' (fpOf r e st).w := by
 cases r
 case copy =>
  simp only [step] at h
  split at h
  ·rename_i da dn dc sa sn sc hd hs
   simp only [bind, Option.bind_eq_some_iff] at h
   obtain ⟨a, _, h⟩ := h
   split at h
   ·simp at h; obtain ⟨rfl, rfl⟩ := h; exact KeptW.refl _ _
   ·split at h
    ·simp only [Option.bind_eq_some_iff, Option.some.injEq, Prod.mk.injEq] at h
     obtain ⟨h1, hw, _, rfl⟩ := h
     exact KeptW.wr hw (by simp_all [fpOf, blk])
    ·cases h
  ·cases h
 case store =>
  simp only [step] at h
  split at h
  ·simp only [bind, Option.ite_none_right_eq_some, Option.bind_eq_some_iff, Option.some.injEq, Prod.mk.injEq] at h
   obtain ⟨_, h1, hw, _, rfl⟩ := h
   exact KeptW.wr hw (by simp_all [fpOf, blk])
  ·cases h
 case append =>
  simp only [step, Option.map_eq_some_iff, Prod.mk.injEq] at h
  obtain ⟨⟨v0, s0⟩, ha, _, rfl⟩ := h
  unfold appendV at ha
  split at ha
  ·rename_i hs hx
   simp only [bind, Option.bind_eq_some_iff] at ha
   obtain ⟨_, _, ha⟩ := ha
   have := appendCells_kept ha
   simp only [fpOf, hs]
   exact this
  ·cases ha
 case appendZ =>
  simp only [step, Option.map_eq_some_iff, Prod.mk.injEq] at h
  obtain ⟨⟨v0, s0⟩, ha, _, rfl⟩ := h
  unfold appendZV at ha
  split at ha
  ·rename_i hs hx
   split at ha
   ·have := appendCells_kept ha
    simp only [fpOf, hs]
    exact this
   ·cases ha
  ·cases ha
 case load n a => cases n <;> simp only [step] at h <;> split at h <;> simp at h <;> (obtain ⟨_, _, _, rfl⟩ := h; exact KeptW.refl _ _)
 case mapUpd =>
  simp only [step] at h
  split at h
  ·split at h
   ·simp only [bind, Option.bind_eq_some_iff, Option.some.injEq, Prod.mk.injEq] at h
    obtain ⟨f, _, _, rfl⟩ := h
    cases f <;> exact KeptW.set _ _ (by simp_all [fpOf, blk])
   ·cases h
  ·cases h
 case mapEntry =>
  simp only [step] at h
  split at h
  ·split at h
   ·simp only [bind, Option.bind_eq_some_iff] at h
    obtain ⟨f, _, h⟩ := h
    cases f <;> simp at h <;> obtain ⟨_, rfl⟩ := h
    ·exact KeptW.set _ _ (by simp_all [fpOf, blk])
    ·exact KeptW.floor _
   ·cases h
  ·cases h
 case entryStore =>
  simp only [step] at h
  split at h
  ·split at h
   ·split at h
    ·simp at h; obtain ⟨_, rfl⟩ := h; exact KeptW.set _ _ (by simp_all [fpOf, blk])
    ·cases h
   ·cases h
  ·cases h
 case delete =>
  simp only [step] at h
  split at h
  ·split at h
   ·simp only [bind, Option.bind_eq_some_iff, Option.some.injEq, Prod.mk.injEq] at h
    obtain ⟨f, _, _, rfl⟩ := h
    exact KeptW.set _ _ (by simp_all [fpOf, blk])
   ·cases h
  ·cases h
 case next it =>
  have hblk : ∀ r b since seen l, nextC (e it) st = some (r, b, since, seen, l) → blk (e it) = [r] := by
   intro r b since seen l hn
   unfold nextC at hn
   split at hn
   ·rename_i r0 hit
    split at hn
    ·split at hn
     ·split at hn
      ·simp only [Option.map_eq_some_iff, Prod.mk.injEq] at hn
       obtain ⟨_, _, rfl, _⟩ := hn
       simp [hit, blk]
      ·cases hn
     ·cases hn
    ·cases hn
   ·cases hn
  simp only [step] at h
  split at h
  ·rename_i r b since seen hn
   simp at h; obtain ⟨_, rfl⟩ := h
   exact KeptW.set _ _ (by simp [fpOf, hblk _ _ _ _ _ hn])
  ·rename_i r b since seen en hn
   simp at h; obtain ⟨_, rfl⟩ := h
   exact KeptW.set _ _ (by simp [fpOf, hblk _ _ _ _ _ hn])
  ·cases h
 case buildSlice =>
  simp only [step] at h
  split at h
  ·simp at h; obtain ⟨_, rfl⟩ := h; exact KeptW.refl _ _
  ·simp [bind, Option.bind_eq_some_iff] at h
   obtain ⟨_, _, _, rfl⟩ := h
   exact KeptW.snoc _ _ _
 case eqNil =>
  simp only [step, Option.map_eq_some_iff, Prod.mk.injEq] at h
  obtain ⟨_, _, _, rfl⟩ := h
  exact KeptW.refl _ _
 all_goals
  simp only [step] at h
  (repeat' split at h) <;> simp [bind, Option.bind_eq_some_iff] at h
  all_goals first
   | (obtain ⟨_, rfl⟩ := h; first | exact KeptW.refl _ _ | exact KeptW.snoc _ _ _)
   | (obtain ⟨_, _, rfl⟩ := h; first | exact KeptW.refl _ _ | exact KeptW.snoc _ _ _)
   | (obtain ⟨_, _, _, rfl⟩ := h; first | exact KeptW.refl _ _ | exact KeptW.snoc _ _ _)
   | (obtain ⟨_, _, _, _, rfl⟩ := h; first | exact KeptW.refl _ _ | exact KeptW.snoc _ _ _)
   | (obtain ⟨_, _, _, _, _, rfl⟩ := h; first | exact KeptW.refl _ _ | exact KeptW.snoc _ _ _)
theorem KeptW.kept {st st' : St} {ws : List Nat} (h : KeptW st st' ws) : Kept st st' := ⟨h.fl, h.len, h.low⟩
theorem step_kept' {r : ROp} {e : Operand → Value} {st st' : St} {x : Res} (h : step r e st = some (x, st')) : Kept st st' := by
 cases x with
 | val v => exact (step_kept h).kept
 | pan v => obtain ⟨_, _, _, _, _, _, rfl⟩ := step_pan_inv h; exact Kept.refl _
def CallKept (call : CallF) : Prop := ∀ f args st o st', call f args st = some (o, st') → Kept st st'
theorem joined_kept {st st' : St} (h : Kept { st with fl := st.h.length } st') : Kept st (joined st st') := by
 have hcase : (joined st st').fl ≤ st'.fl ∨ st.h.length ≤ st'.fl := by
  unfold joined
  by_cases h : st'.fl < st.h.length
  ·left; simp only [h, if_true]; exact Nat.min_le_right _ _
  ·right; omega
 refine ⟨?_, h.len, fun id h1 h2 => h.same id h1 ?_⟩
 ·unfold joined
  by_cases h : st'.fl < st.h.length
  ·simp only [h, if_true]; exact Nat.min_le_left _ _
  ·simp only [h, if_false]; exact Nat.le_refl _
 ·rcases hcase with hc | hc
  ·exact Nat.lt_of_lt_of_le h2 hc
  ·exact Nat.lt_of_lt_of_le h1 hc
theorem doCall_kept {call : CallF} (hc : CallKept call) {f : Operand} {args : List Operand} {e : Operand → Value} {st st' : St} {o : Out} (h : doCall call f args e st = some (o, st')) : Kept { st with fl := st.h.length } st' := by
 unfold doCall at h
 split at h
 ·exact hc _ _ _ _ _ h
 ·cases h
theorem runOps_kept {call : CallF} (hc : CallKept call) : ∀ (l : List ROper) (fr : Fr) (st : St) e fr' st', runOps call l fr st = some (e, fr', st') → Kept st st' := by
 intro l
 induction l with
 | nil => intro fr st e fr' st' h; simp only [runOps, Option.some.injEq, Prod.mk.injEq] at h; obtain ⟨_, _, rfl⟩ := h; exact Kept.refl _
 | cons o os ih =>
  intro fr st e fr' st' h
  simp only [runOps] at h
  split at h
  ·cases hop : o.op <;> simp only [hop] at h
   case call f args =>
    split at h
    ·rename_i v st1 h1
     exact (joined_kept (doCall_kept hc h1)).trans (ih _ _ _ _ _ h)
    ·rename_i v st1 h1
     simp only [Option.some.injEq, Prod.mk.injEq] at h
     obtain ⟨_, _, rfl⟩ := h
     exact joined_kept (doCall_kept hc h1)
    ·cases h
   all_goals
    split at h
    ·rename_i v st1 hs
     exact (step_kept' hs).trans (ih _ _ _ _ _ h)
    ·rename_i v st1 hs
     simp only [Option.some.injEq, Prod.mk.injEq] at h
     obtain ⟨_, _, rfl⟩ := h
     exact step_kept' hs
    ·cases h
  ·exact ih _ _ _ _ _ h
theorem opD_kept {call : CallF} (hc : CallKept call) {r : ROp} {e : Operand → Value} {st st' : St} {v : Value} {fp : FP} (h : opD call r e st = some (v, st', fp)) : Kept st st' := by
 unfold opD at h
 split at h
 ·split at h
  ·cases h
  split at h
  ·rename_i h1
   simp only [Option.some.injEq, Prod.mk.injEq] at h
   obtain ⟨_, rfl, _⟩ := h
   exact joined_kept (doCall_kept hc h1)
  ·cases h
 ·split at h
  ·rename_i h1
   simp only [Option.some.injEq, Prod.mk.injEq] at h
   obtain ⟨_, rfl, _⟩ := h
   exact step_kept' h1
  ·cases h
theorem runOpsD_kept {call : CallF} (hc : CallKept call) : ∀ (l : List ROper) (i : Nat) (acc : List (Nat × FP)) (fr : Fr) (st : St) e fr' st', runOpsD call i acc l fr st = some (e, fr', st') → Kept st st' := by
 intro l
 induction l with
 | nil => intro i acc fr st e fr' st' h; simp only [runOpsD, Option.some.injEq, Prod.mk.injEq] at h; obtain ⟨_, _, rfl⟩ := h; exact Kept.refl _
 | cons o os ih =>
  intro i acc fr st e fr' st' h
  simp only [runOpsD] at h
  split at h
  ·split at h
   ·rename_i h1
    split at h
    ·cases h
    ·exact (opD_kept hc h1).trans (ih _ _ _ _ _ _ _ h)
   ·cases h
  ·exact ih _ _ _ _ _ _ _ h
def SumsKept (E : Env) : Prop := ∀ f s, E.S f = some s → ∀ args st o st', s args st = some (o, st') → Kept st st'
theorem back_kept {st st' : St} {o : Out} (h : Kept st st') : Kept st (back st o st').2 := by
 unfold back
 split
 ·exact Kept.refl _
 ·exact h
theorem Kept.set (st : St) {k : Nat} (o : O) : Kept st { st with h := st.h.set k o, fl := min st.fl k } := (KeptW.set st o (ws := [k]) (by simp)).kept
theorem turn_kept {b : Bool} {k : Nat} {st st' : St} (h : turn b k st = some st') : Kept st st' := by
 unfold turn at h
 split at h
 ·split at h
  ·obtain rfl := Option.some.inj h; exact Kept.set st _
  ·cases h
 ·cases h
theorem over_kept {k : Nat} {st st' : St} (h : over k st = some st') : Kept st st' := by
 unfold over at h
 split at h
 ·obtain rfl := Option.some.inj h; exact Kept.set st _
 ·cases h
theorem callY_kept {E : Env} {X : R → Fr → St → Option (Ex × Fr × St)} (hX : ∀ r fr st e fr' st', X r fr st = some (e, fr', st') → Kept st st') {k : Nat} {args : List Value} {st st' : St} {o : Out} (h : callY E X k args st = some (o, st')) : Kept st st' := by
 unfold callY at h
 split at h
 ·split at h
  ·split at h
   ·split at h
    ·rename_i h1
     split at h
     ·rename_i h2
      split at h
      ·rename_i h3
       simp only [Option.map_eq_some_iff, Prod.mk.injEq] at h
       obtain ⟨st4, h4, _, rfl⟩ := h
       exact (hX _ _ _ _ _ _ h1).trans ((turn_kept h2).trans ((hX _ _ _ _ _ _ h3).trans (turn_kept h4)))
      ·cases h
     ·cases h
    ·cases h
   ·cases h
  ·cases h
 ·cases h
theorem callKept_of {E : Env} (hS : SumsKept E) {X : R → Fr → St → Option (Ex × Fr × St)} (hX : ∀ r fr st e fr' st', X r fr st = some (e, fr', st') → Kept st st') : CallKept (callSig E.S (callOf E X)) := by
 intro f args st o st' h
 unfold callSig at h
 split at h
 ·rename_i s hs
  exact hS f s hs args st o st' h
 ·unfold callOf at h
  split at h
  ·exact callY_kept hX h
  split at h
  ·cases h
  ·split at h
   ·rename_i h1
    simp only [Option.map_eq_some_iff] at h
    obtain ⟨v, _, hb⟩ := h
    have := back_kept (o := .ret v) (hX _ _ _ _ _ _ h1)
    rw [hb] at this; exact this
   ·rename_i h1
    simp only [Option.map_eq_some_iff] at h
    obtain ⟨v, _, hb⟩ := h
    have := back_kept (o := .ret v) (hX _ _ _ _ _ _ h1)
    rw [hb] at this; exact this
   ·rename_i v _ _ h1
    simp only [Option.some.injEq] at h
    have := back_kept (o := .pan v) (hX _ _ _ _ _ _ h1)
    rw [h] at this; exact this
   ·cases h
theorem exec_kept {E : Env} (hS : SumsKept E) : ∀ (n : Nat) (r : R) (fr : Fr) (st : St) e fr' st', exec E n r fr st = some (e, fr', st') → Kept st st' := by
 intro n
 induction n with
 | zero => intro r fr st e fr' st' h; simp [exec] at h
 | succ n ih =>
  intro r fr st e fr' st' h
  cases r with
  | skip => simp only [exec, Option.some.injEq, Prod.mk.injEq] at h; obtain ⟨_, _, rfl⟩ := h; exact Kept.refl _
  | exit id => simp only [exec, Option.some.injEq, Prod.mk.injEq] at h; obtain ⟨_, _, rfl⟩ := h; exact Kept.refl _
  | ret => simp only [exec, Option.some.injEq, Prod.mk.injEq] at h; obtain ⟨_, _, rfl⟩ := h; exact Kept.refl _
  | seq a b =>
   simp only [exec] at h
   split at h
   ·rename_i h1
    exact (ih _ _ _ _ _ _ h1).trans (ih _ _ _ _ _ _ h)
   ·exact ih _ _ _ _ _ _ h
  | cond c t el =>
   simp only [exec] at h
   split at h
   ·split at h <;> exact ih _ _ _ _ _ _ h
   ·cases h
  | block id b =>
   simp only [exec] at h
   split at h
   ·rename_i h1
    split at h <;> (simp only [Option.some.injEq, Prod.mk.injEq] at h; obtain ⟨_, _, rfl⟩ := h; exact ih _ _ _ _ _ _ h1)
   ·exact ih _ _ _ _ _ _ h
  | loop b =>
   simp only [exec] at h
   split at h
   ·rename_i h1
    exact (ih _ _ _ _ _ _ h1).trans (ih _ _ _ _ _ _ h)
   ·exact ih _ _ _ _ _ _ h
  | ops draw l =>
   cases draw with
   | true => simp only [exec] at h; exact runOpsD_kept (callKept_of hS (ih)) _ _ _ _ _ _ _ _ h
   | false => simp only [exec] at h; exact runOps_kept (callKept_of hS (ih)) _ _ _ _ _ _ h
  | rangeF g ps nt as bd =>
   simp only [exec] at h
   split at h
   ·split at h
    ·split at h
     ·rename_i h1
      simp only [Option.map_eq_some_iff, Prod.mk.injEq] at h
      obtain ⟨st3, h3, _, _, rfl⟩ := h
      have hk := callKept_of hS ih _ _ _ _ _ h1
      have hlen : st.h.length + 1 = (looped nt fr ps as bd st).h.length := by simp [looped]
      rw [hlen] at hk
      exact ((KeptW.snoc st _ []).kept.trans (joined_kept hk)).trans (over_kept h3)
     ·cases h
    ·cases h
   ·cases h
end Go.Ai
namespace Go.Ai
open Go.RowKit
variable {P : Program} {ρ ρ' : RM} {w w' : World}
theorem mapM_range {α : Type} {f : Nat → Option α} {m : Nat} {l : List α} (h : (List.range m).mapM f = some l) : l.length = m ∧ ∀ k, k < m → ∃ r, l[k]? = some r ∧ f k = some r := by
 have key : ∀ (is : List Nat) (l : List α), is.mapM f = some l → l.length = is.length ∧ ∀ (k i : Nat), is[k]? = some i → ∃ r, l[k]? = some r ∧ f i = some r := by
  intro is
  induction is with
  | nil => intro l h; simp at h; subst h; exact ⟨rfl, fun k i h => by simp at h⟩
  | cons i is ih =>
   intro l h
   simp only [List.mapM_cons, bind, Option.bind_eq_some_iff, pure, Option.some.injEq] at h
   obtain ⟨r, hr, l', hl', rfl⟩ := h
   obtain ⟨h1, h2⟩ := ih l' hl'
   refine ⟨by simp [h1], fun k j hk => ?_⟩
   cases k with
   | zero => simp at hk; subst hk; exact ⟨r, rfl, hr⟩
   | succ k => exact h2 k j (by simpa using hk)
 obtain ⟨h1, h2⟩ := key _ _ h
 exact ⟨by simpa using h1, fun k hk => h2 k k (by simp [hk])⟩
structure Reg (P : Program) (nt : Nat) (ops : Array Oper) (l : List ROper) (call : CallF) (frs : Nat → Fr) (sts : Nat → St) (fps : Nat → FP) (vs : Nat → Value) : Prop where
 len : l.length = ops.size
 at_ : ∀ k, k < ops.size → ∃ r, l[k]? = some r ∧ coper P nt ops (Region.before ops) true k = some r
 slots : slotsOk ops (Region.before ops) = true
 edges : edgesOk ops = true
 tr : Trace call l 0 frs sts fps vs
 kept : CallKept call
abbrev anc (ops : Array Oper) (i j : Nat) : Prop := ((Region.before ops).getD i 0).testBit j = true
section
variable {nt : Nat} {ops : Array Oper} {l : List ROper} {call : CallF} {frs : Nat → Fr} {sts : Nat → St} {fps : Nat → FP} {vs : Nat → Value}
theorem Reg.of {fr fr' : Fr} {st st' : St} {e : Ex} (hl : cops P nt ops true = some l) (hr : runOpsD call 0 [] l fr st = some (e, fr', st')) (hk : CallKept call) :
  ∃ frs sts fps vs, Reg P nt ops l call frs sts fps vs ∧ frs 0 = fr ∧ sts 0 = st ∧ frs ops.size = fr' ∧ sts ops.size = st' := by
 unfold cops at hl
 simp only [if_true, bind, Option.bind_eq_some_iff] at hl
 obtain ⟨_, hg, hmap⟩ := hl
 have hs : slotsOk ops (Region.before ops) = true ∧ edgesOk ops = true := by
  unfold guardB at hg
  split at hg
  ·rename_i h; simpa using h
  ·cases hg
 obtain ⟨h1, h2⟩ := mapM_range hmap
 obtain ⟨frs, sts, fps, vs, htr, a, b, c, d, _⟩ := trace_of _ _ _ _ _ _ _ _ hr
 exact ⟨frs, sts, fps, vs, ⟨h1, h2, hs.1, hs.2, htr, hk⟩, a, b, h1 ▸ c, h1 ▸ d⟩
theorem Reg.step (G : Reg P nt ops l call frs sts fps vs) {k : Nat} (hk : k < ops.size) : ∃ r, l[k]? = some r ∧ coper P nt ops (Region.before ops) true k = some r ∧ TStep call r (frs k) (sts k) (vs k) (frs (k + 1)) (sts (k + 1)) (fps k) := by
 obtain ⟨r, h1, h2⟩ := G.at_ k hk
 exact ⟨r, h1, h2, G.tr.step k r h1⟩
theorem tstep_kept (hc : CallKept call) {r : ROper} {fr fr1 : Fr} {st st1 : St} {v : Value} {fp : FP} (h : TStep call r fr st v fr1 st1 fp) :
  Kept st st1 ∧ (∀ id, id < st.h.length → id ∉ fp.w → fp.bad = false → st1.h[id]? = st.h[id]?) ∧ (fp.al = (st1.h.length != st.h.length)) := by
 rcases h.act with ⟨_, _, rfl, rfl⟩ | ⟨_, hop⟩
 ·exact ⟨Kept.refl _, fun _ _ _ _ => rfl, by simp⟩
 ·refine ⟨opD_kept hc hop, ?_⟩
  unfold opD at hop
  split at hop
  ·split at hop
   ·cases hop
   split at hop
   ·rename_i st2 h1
    simp only [Option.some.injEq, Prod.mk.injEq] at hop
    obtain ⟨_, rfl, rfl⟩ := hop
    have hk := doCall_kept hc h1
    refine ⟨fun id hid _ hb => hk.same id hid ?_, rfl⟩
    simp only [decide_eq_false_iff_not, Nat.not_lt] at hb
    exact Nat.lt_of_lt_of_le hid hb
   ·cases hop
  ·split at hop
   ·rename_i h1
    simp only [Option.some.injEq, Prod.mk.injEq] at hop
    obtain ⟨_, rfl, rfl⟩ := hop
    exact ⟨fun id hid hn _ => (step_kept h1).same id hid hn, rfl⟩
   ·cases hop
theorem Reg.keptAt (G : Reg P nt ops l call frs sts fps vs) {k : Nat} (hk : k < ops.size) : Kept (sts k) (sts (k + 1)) ∧ (∀ id, id < (sts k).h.length → id ∉ (fps k).w → (fps k).bad = false → (sts (k + 1)).h[id]? = (sts k).h[id]?) ∧ ((fps k).al = ((sts (k + 1)).h.length != (sts k).h.length)) := by
 obtain ⟨r, _, _, ht⟩ := G.step hk
 exact tstep_kept G.kept ht
theorem Reg.mono (G : Reg P nt ops l call frs sts fps vs) {i j : Nat} (hij : i ≤ j) (hj : j ≤ ops.size) : Kept (sts i) (sts j) := by
 induction j with
 | zero =>
  obtain rfl : i = 0 := by omega
  exact Kept.refl _
 | succ j ih =>
  by_cases h : i = j + 1
  ·subst h; exact Kept.refl _
  ·exact (ih (by omega) (by omega)).trans (G.keptAt (by omega)).1
theorem Reg.stable (G : Reg P nt ops l call frs sts fps vs) {i j id : Nat} (hij : i ≤ j) (hj : j ≤ ops.size) (hid : id < (sts i).h.length) (hn : ∀ k, i ≤ k → k < j → id ∉ (fps k).w ∧ (fps k).bad = false) : hp (sts j).h id = hp (sts i).h id := by
 induction j with
 | zero =>
  obtain rfl : i = 0 := by omega
  rfl
 | succ j ih =>
  by_cases h : i = j + 1
  ·subst h; rfl
  ·have h1 := ih (by omega) (by omega) (fun k a b => hn k a (by omega))
   obtain ⟨q1, q2⟩ := hn j (by omega) (by omega)
   have hlt : id < (sts j).h.length := Nat.lt_of_lt_of_le hid (G.mono (by omega) (by omega)).len
   have := (G.keptAt (k := j) (by omega)).2.1 id hlt q1 q2
   rw [← h1]
   simp [hp, List.getD, this]
theorem Reg.slotStable (G : Reg P nt ops l call frs sts fps vs) {i j t : Nat} (hij : i ≤ j) (hj : j ≤ ops.size) (hn : ∀ k r, i ≤ k → k < j → l[k]? = some r → r.dst ≠ some t) : get (frs j) t = get (frs i) t := by
 induction j with
 | zero =>
  obtain rfl : i = 0 := by omega
  rfl
 | succ j ih =>
  by_cases h : i = j + 1
  ·subst h; rfl
  ·have h1 := ih (by omega) (by omega) (fun k r a b => hn k r a (by omega))
   obtain ⟨r, hr, _, ht⟩ := G.step (k := j) (by omega)
   have hd := hn j r (by omega) (by omega) hr
   rw [ht.put, ← h1]
   cases hdst : r.dst with
   | none => rfl
   | some d =>
    show get (put (frs j) d (vs j)) t = _
    rw [get_put, if_neg (fun e => hd (by rw [hdst, e]))]
theorem Reg.clash (G : Reg P nt ops l call frs sts fps vs) {j k : Nat} (hjk : j < k) (hk : k < ops.size) (hn : ¬ anc ops k j) : (fps j).clash (fps k) = false := by
 obtain ⟨r, hr, hco, _⟩ := G.step hk
 refine G.tr.clash j k r hjk hr ?_
 obtain ⟨_, _, _, _, _, _, ha⟩ := coper_spec hco
 rw [ha, Nat.zero_add]
 simpa using hn
theorem Reg.slotAnc (G : Reg P nt ops l call frs sts fps vs) {i j t : Nat} {x y : Oper} (hij : i < j) (hx : ops[i]? = some x) (hy : ops[j]? = some y) (h : (x.dst = some t ∧ t ∈ Ai.slots ops y) ∨ (y.dst = some t ∧ t ∈ Ai.slots ops x)) : anc ops j i := by
 have hs := G.slots
 unfold slotsOk at hs
 have hj : j < ops.size := (Array.getElem?_eq_some_iff.1 hy).1
 have := List.all_eq_true.1 (List.all_eq_true.1 hs j (List.mem_range.2 hj)) i (List.mem_range.2 hij)
 rw [hx, hy] at this
 simp only [Bool.or_eq_true, Bool.and_eq_true] at this
 rcases this with h1 | ⟨h1, h2⟩
 ·exact h1
 ·exfalso
  rcases h with ⟨q1, q2⟩ | ⟨q1, q2⟩
  ·rw [q1] at h1; simp at h1; exact h1 q2
  ·rw [q1] at h2; simp at h2; exact h2 q2
end
end Go.Ai
namespace Go.Ai
open Go.RowKit
variable {P : Program} {ρ ρ' : RM} {w w' : World} {D : List Deferred}
theorem clash_ww {x y : FP} {id : Nat} (hx : id ∈ x.w ∨ x.bad = true) (hy : id ∈ y.w ∨ y.bad = true) : x.clash y = true := by
 have tch : ∀ z : FP, (id ∈ z.w ∨ z.bad = true) → z.touches = true := fun z hz => by
  unfold FP.touches
  rcases hz with h | h
  ·have : z.w.isEmpty = false := by cases hw : z.w with | nil => rw [hw] at h; cases h | cons _ _ => rfl
   simp [this]
  ·simp [h]
 unfold FP.clash FP.hits
 rcases hx with h1 | h1
 ·rcases hy with h2 | h2
  ·have : (x.w.any fun k => y.r.contains k || y.w.contains k) = true := List.any_eq_true.2 ⟨id, h1, by simp [h2]⟩
   simp only [this, Bool.or_true, Bool.true_or]
  ·simp [h2, tch x (.inl h1)]
 ·simp [h1, tch y hy]
theorem clash_al {x y : FP} (hx : x.al = true) (hy : y.bad = true) : x.clash y = true := by
 unfold FP.clash FP.hits
 simp [hx, hy]
theorem clash_rw {x y : FP} {id : Nat} (hx : id ∈ x.r ∨ id ∈ x.w) (hy : id ∈ y.w ∨ y.bad = true) : x.clash y = true ∧ y.clash x = true := by
 have tx : x.touches = true := by
  unfold FP.touches
  rcases hx with h | h
  ·have : x.r.isEmpty = false := by cases hw : x.r with | nil => rw [hw] at h; cases h | cons _ _ => rfl
   simp [this]
  ·have : x.w.isEmpty = false := by cases hw : x.w with | nil => rw [hw] at h; cases h | cons _ _ => rfl
   simp [this]
 have : y.hits x = true := by
  unfold FP.hits
  rcases hy with h | h
  ·have : (y.w.any fun k => x.r.contains k || x.w.contains k) = true := List.any_eq_true.2 ⟨id, h, by rcases hx with q | q <;> simp [q]⟩
   simp only [this, Bool.or_true]
  ·simp [h, tx]
 unfold FP.clash
 simp [this]
section
variable {nt : Nat} {ops : Array Oper} {l : List ROper} {call : CallF} {frs : Nat → Fr} {sts : Nat → St} {fps : Nat → FP} {vs : Nat → Value}
structure Stage (D : List Deferred) (B nt : Nat) (ops : Array Oper) (l : List ROper) (frs : Nat → Fr) (sts : Nat → St) (fps : Nat → FP) (ρ0 : RM) (w0 : World) (S : Nat → Prop) (a : Act) (w : World) (ρ : RM) (H : Nat → O) : Prop where
 mem : WRel B ρ w H
 tsize : nt ≤ a.tmps.size
 defers : a.defers = D
 ran : ∀ sF : St, sF.fl ≤ (sts 0).fl → (sts 0).h.length ≤ sF.h.length → (∀ k, k < ops.size → S k → sF.fl ≤ (sts (k + 1)).fl ∧ (sts (k + 1)).h.length ≤ sF.h.length) → RanW B ρ0 ρ w0 w (sts 0) sF
 slot : ∀ t j, j ≤ ops.size → (∀ (k : Nat) r, l[k]? = some r → r.dst = some t → (S k ↔ k < j)) → VRel ρ (get (frs j) t) (a.tmps.getD t undef)
 blk : ∀ id lo j, j ≤ ops.size → ρ id = some lo → id < (sts j).h.length → (∀ k, k < ops.size → id < (sts k).h.length → (id ∈ (fps k).w ∨ (fps k).bad = true) → (S k ↔ k < j)) → H id = hp (sts j).h id
 dom : ∀ id lo, ρ id = some lo → (∃ lo0, ρ0 id = some lo0) ∨ ∃ k, k < ops.size ∧ S k ∧ (sts k).h.length ≤ id ∧ id < (sts (k + 1)).h.length
 wk : ∀ k, k < ops.size → S k → ∀ id ∈ (fps k).w, ∃ lo, ρ id = some lo
structure Did (B : Nat) (sts : Nat → St) (fps : Nat → FP) (vs : Nat → Value) (i : Nat) (ρ ρ' : RM) (w w' : World) (H H' : Nat → O) (v' : Value) : Prop where
 mem : WRel B ρ' w' H'
 ran : ∀ sX : St, sX.fl ≤ (sts (i + 1)).fl → (sts (i + 1)).h.length ≤ sX.h.length → RanW B ρ ρ' w w' sX sX
 val : VRel ρ' (vs i) v'
 dom : ∀ id lo, ρ' id = some lo → ρ id = some lo ∨ (ρ id = none ∧ (sts i).h.length ≤ id ∧ id < (sts (i + 1)).h.length)
 new : ∀ id lo, ρ' id = some lo → ρ id = none → H' id = hp (sts (i + 1)).h id
 writer : ∀ id lo, ρ id = some lo → id < (sts i).h.length → (id ∈ (fps i).w ∨ (fps i).bad = true) → H' id = hp (sts (i + 1)).h id
 other : ∀ id lo, ρ id = some lo → ¬ (id < (sts i).h.length ∧ (id ∈ (fps i).w ∨ (fps i).bad = true)) → H' id = H id
 wk : ∀ id ∈ (fps i).w, ∃ lo, ρ' id = some lo
theorem slots_dst {ops : Array Oper} {o : Oper} {t : Nat} (h : o.dst = some t) : t ∈ slots ops o := by
 unfold slots
 simp [h]
theorem Stage.next {B : Nat} {ρ0 : RM} {w0 : World} {S : Nat → Prop} {a : Act} {H H' : Nat → O} {v' : Value} {i : Nat} {r : ROper} (G : Reg P nt ops l call frs sts fps vs) (hst : Stage D B nt ops l frs sts fps ρ0 w0 S a w ρ H) (hi : i < ops.size) (hr : l[i]? = some r) (hSi : ¬ S i) (hdown : ∀ x y, S x → anc ops x y → S y)
  (hd : Did B sts fps vs i ρ ρ' w w' H H' v') : Stage D B nt ops l frs sts fps ρ0 w0 (fun k => S k ∨ k = i) (a.put r.dst v') w' ρ' H' := by
 have hle : ρ.le ρ' := (hd.ran (sts (i + 1)) (Nat.le_refl _) (Nat.le_refl _)).le
 obtain ⟨r', hr', hco, hts⟩ := G.step hi
 obtain rfl : r = r' := Option.some.inj (hr.symm.trans hr')
 obtain ⟨o, ho, _, hdst, hdlt, _, _⟩ := coper_spec hco
 -- a later one that has been taken is not held back by this one
 have hlater : ∀ k, i < k → k < ops.size → S k → anc ops k i → False := fun k _ _ hk ha => hSi (hdown k i hk ha)
 refine ⟨hd.mem, ?_, ?_, ?_, ?_, ?_, ?_, ?_⟩
 ·cases r.dst with
  | none => exact hst.tsize
  | some d => simpa [Act.put] using hst.tsize
 ·cases r.dst with
  | none => exact hst.defers
  | some d => exact hst.defers
 ·intro sF h1 h2 h3
  obtain ⟨q1, q2⟩ := h3 i hi (.inr rfl)
  exact (hst.ran sF h1 h2 fun k hk hS => h3 k hk (.inl hS)).trans (hd.ran sF q1 q2)
 ·intro t j hj hcons
  by_cases ht : r.dst = some t
  ·have hij : i < j := (hcons i r hr ht).1 (.inr rfl)
   have hst1 : get (frs j) t = get (frs (i + 1)) t := G.slotStable (by omega) hj fun k rk h1 h2 hk hdk => by
    have hk' : k < ops.size := by omega
    rcases (hcons k rk hk hdk).2 h2 with hS | hS
    ·obtain ⟨rk', hrk', hcok, _⟩ := G.step hk'
     obtain rfl : rk = rk' := Option.some.inj (hk.symm.trans hrk')
     obtain ⟨ok, hok, _, hdstk, _⟩ := coper_spec hcok
     exact hlater k (by omega) hk' hS (G.slotAnc (t := t) (by omega) ho hok (.inr ⟨by rw [← hdstk]; exact hdk, slots_dst (by rw [← hdst]; exact ht)⟩))
    ·omega
   rw [hst1, hts.put, ht]
   show VRel ρ' (get (put (frs i) t (vs i)) t) ((a.tmps.setIfInBounds t v').getD t undef)
   rw [get_put, if_pos rfl]
   have hlt : t < a.tmps.size := Nat.lt_of_lt_of_le (hdlt t (by rw [← hdst]; exact ht)) hst.tsize
   simpa [hlt] using hd.val
  ·have h1 := hst.slot t j hj fun k rk hk hdk => by
    have hki : k ≠ i := fun e => by subst e; rw [hr] at hk; obtain rfl := Option.some.inj hk; exact ht hdk
    have := hcons k rk hk hdk
    constructor
    ·exact fun hS => this.1 (.inl hS)
    ·exact fun hkj => (this.2 hkj).resolve_right hki
   have h2 : (a.put r.dst v').tmps.getD t undef = a.tmps.getD t undef := by
    cases hdd : r.dst with
    | none => rfl
    | some d =>
     have hne : d ≠ t := fun e => ht (by rw [hdd, e])
     simp only [Act.put, Array.getD_eq_getD_getElem?]
     rw [Array.getElem?_setIfInBounds_ne hne]
   rw [h2]
   exact h1.mono hle
 ·intro id lo j hj hid hlt hcons
  rcases hd.dom id lo hid with hold | ⟨hnone, hn1, hn2⟩
  ·by_cases hwr : id < (sts i).h.length ∧ (id ∈ (fps i).w ∨ (fps i).bad = true)
   ·rw [hd.writer id lo hold hwr.1 hwr.2]
    have hij : i < j := (hcons i hi hwr.1 hwr.2).1 (.inr rfl)
    have hidlt : id < (sts (i + 1)).h.length := Nat.lt_of_lt_of_le hwr.1 (G.keptAt hi).1.len
    refine (G.stable (by omega) hj hidlt fun k h1 h2 => ?_).symm
    have hk' : k < ops.size := by omega
    have hnot : ¬ (id ∈ (fps k).w ∨ (fps k).bad = true) := fun hk => by
     have hlk : id < (sts k).h.length := Nat.lt_of_lt_of_le hidlt (G.mono h1 (by omega)).len
     rcases (hcons k hk' hlk hk).2 h2 with hS | hS
     ·refine hlater k (by omega) hk' hS ?_
      refine Classical.byContradiction fun hna => ?_
      have := G.clash (by omega) hk' hna
      rw [clash_ww hwr.2 hk] at this
      cases this
     ·omega
    simp only [not_or, Bool.not_eq_true] at hnot
    exact hnot
   ·rw [hd.other id lo hold hwr]
    refine hst.blk id lo j hj hold hlt fun k hk hlk hw => ?_
    have hki : k ≠ i := fun e => by subst e; exact hwr ⟨hlk, hw⟩
    have := hcons k hk hlk hw
    constructor
    ·exact fun hS => this.1 (.inl hS)
    ·exact fun hkj => (this.2 hkj).resolve_right hki
  ·rw [hd.new id lo hid hnone]
   have hij : i < j := by
    refine Classical.byContradiction fun hn => ?_
    have := (G.mono (i := j) (j := i) (by omega) (by omega)).len
    omega
   refine (G.stable (by omega) hj hn2 fun k h1 h2 => ?_).symm
   have hk' : k < ops.size := by omega
   have hnot : ¬ (id ∈ (fps k).w ∨ (fps k).bad = true) := fun hk => by
    have hlk : id < (sts k).h.length := Nat.lt_of_lt_of_le hn2 (G.mono h1 (by omega)).len
    rcases (hcons k hk' hlk hk).2 h2 with hS | hS
    ·rcases hk with hk | hk
     ·obtain ⟨lo', hlo'⟩ := hst.wk k hk' hS id hk
      rw [hnone] at hlo'; cases hlo'
     ·refine hlater k (by omega) hk' hS ?_
      refine Classical.byContradiction fun hna => ?_
      have := G.clash (by omega) hk' hna
      have hal : (fps i).al = true := by rw [(G.keptAt hi).2.2]; simp; omega
      rw [clash_al hal hk] at this
      cases this
    ·omega
   simp only [not_or, Bool.not_eq_true] at hnot
   exact hnot
 ·intro id lo hid
  rcases hd.dom id lo hid with hold | ⟨_, hn1, hn2⟩
  ·rcases hst.dom id lo hold with h | ⟨k, h1, h2, h3⟩
   ·exact .inl h
   ·exact .inr ⟨k, h1, .inl h2, h3⟩
  ·exact .inr ⟨i, hi, .inr rfl, hn1, hn2⟩
 ·intro k hk hS id hid
  rcases hS with hS | rfl
  ·obtain ⟨lo, hlo⟩ := hst.wk k hk hS id hid
   exact ⟨lo, hle id lo hlo⟩
  ·exact hd.wk id hid
end
end Go.Ai
namespace Go.Ai
open Go.RowKit
variable {P : Program} {ρ ρ' : RM} {w w' : World} {D : List Deferred}
theorem WRel.congr {B : Nat} {H H' : Nat → O} (h : WRel B ρ w H) (he : ∀ id lo, ρ id = some lo → H id = H' id) : WRel B ρ w H' :=
 ⟨h.base, fun id l hl => he id l hl ▸ h.rel id l hl, fun id l hl hr => h.ro id l hl (by rw [he id l hl]; exact hr), fun id l hl hr => h.own id l hl (by rw [he id l hl]; exact hr),
   fun i j li lj hij hi hj hb hB => (he i li hi).symm.trans (h.sep i j li lj hij hi hj hb hB)⟩
theorem fpOf_bad {r : ROp} {e : Operand → Value} {st : St} : (fpOf r e st).bad = false ∧ (fpOf r e st).all = false := by
 cases r <;> exact ⟨rfl, rfl⟩
theorem iterMap_sub {h : List O} {l : List Nat} {b : Nat} (hb : b ∈ l) : b ∈ iterMap h l := by
 unfold iterMap
 split
 ·split
  ·simp at hb; simp [hb]
  ·exact hb
 ·exact hb
theorem fp_cover {r : ROp} {e : Operand → Value} {st : St} (hc : ∀ f a, r ≠ .call f a) : ∀ x ∈ fpOps r, ∀ b ∈ blk (e x), b ∈ (fpOf r e st).r ∨ b ∈ (fpOf r e st).w := by
 intro x hx b hb
 cases r <;> simp [fpOps] at hx
 case call f a => exact absurd rfl (hc f a)
 case next it => subst hx; exact .inr hb
 case entry it => subst hx; exact .inl (iterMap_sub hb)
 all_goals first
  | (subst hx; first | exact .inl hb | exact .inr hb)
  | (rcases hx with rfl | rfl <;> first | exact .inl hb | exact .inr hb)
section
variable {nt : Nat} {ops : Array Oper} {l : List ROper} {call : CallF} {frs : Nat → Fr} {sts : Nat → St} {fps : Nat → FP} {vs : Nat → Value}
variable {B : Nat} {ρ0 : RM} {w0 : World} {S : Nat → Prop} {a : Act} {H : Nat → O} {i : Nat}
structure Taken (ops : Array Oper) (S : Nat → Prop) (i : Nat) : Prop where
 lt : i < ops.size
 no : ¬ S i
 up : ∀ j, anc ops i j → S j
 down : ∀ x y, S x → anc ops x y → S y
theorem Reg.slotCut (G : Reg P nt ops l call frs sts fps vs) (T : Taken ops S i) {o : Oper} {t : Nat} (ho : ops[i]? = some o) (ht : t ∈ Ai.slots ops o) : ∀ (k : Nat) r, l[k]? = some r → r.dst = some t → (S k ↔ k < i) := by
 intro k r hk hd
 have hklt : k < ops.size := by rw [← G.len]; exact (List.getElem?_eq_some_iff.1 hk).1
 obtain ⟨r', hr', hco, _⟩ := G.step hklt
 obtain rfl : r = r' := Option.some.inj (hk.symm.trans hr')
 obtain ⟨ok, hok, _, hdst, _⟩ := coper_spec hco
 rw [hdst] at hd
 constructor
 ·intro hS
  refine Classical.byContradiction fun hn => ?_
  by_cases hki : k = i
  ·exact T.no (hki ▸ hS)
  ·exact T.no (T.down k i hS (G.slotAnc (t := t) (by omega) ho hok (.inr ⟨hd, ht⟩)))
 ·intro hlt
  exact T.up k (G.slotAnc (t := t) hlt hok ho (.inl ⟨hd, ht⟩))
theorem Reg.blkCut (G : Reg P nt ops l call frs sts fps vs) (T : Taken ops S i) {b : Nat} (hb : b ∈ (fps i).r ∨ b ∈ (fps i).w) : ∀ k, k < ops.size → b < (sts k).h.length → (b ∈ (fps k).w ∨ (fps k).bad = true) → (S k ↔ k < i) := by
 intro k hk _ hw
 constructor
 ·intro hS
  refine Classical.byContradiction fun hn => ?_
  by_cases hki : k = i
  ·exact T.no (hki ▸ hS)
  ·refine T.no (T.down k i hS (Classical.byContradiction fun hna => ?_))
   have := G.clash (by omega) hk hna
   rw [(clash_rw hb hw).1] at this
   cases this
 ·intro hlt
  refine T.up k (Classical.byContradiction fun hna => ?_)
  have := G.clash hlt T.lt hna
  rw [(clash_rw hb hw).2] at this
  cases this
theorem Reg.callCut (G : Reg P nt ops l call frs sts fps vs) (T : Taken ops S i) (hall : (fps i).all = true) {k : Nat} (hk : k < ops.size) (hw : (∃ b, b ∈ (fps k).w) ∨ (fps k).bad = true ∨ ((fps k).al = true ∧ (fps i).bad = true)) (hki : k ≠ i) : (S k ↔ k < i) := by
 have hcl : (fps i).clash (fps k) = true ∧ (fps k).clash (fps i) = true := by
  have ht : (fps i).touches = true := by simp [FP.touches, hall]
  have : (fps i).hits (fps k) = true ∨ (fps k).hits (fps i) = true := by
   rcases hw with ⟨b, hb⟩ | hb | ⟨hb, hb2⟩
   ·left
    have : (fps k).w.isEmpty = false := by cases hw : (fps k).w with | nil => rw [hw] at hb; cases hb | cons _ _ => rfl
    simp [FP.hits, hall, this]
   ·right; simp [FP.hits, hb, ht]
   ·left; simp [FP.hits, hb2, hb]
  unfold FP.clash
  rcases this with h | h <;> simp [h]
 constructor
 ·intro hS
  refine Classical.byContradiction fun hn => ?_
  refine T.no (T.down k i hS (Classical.byContradiction fun hna => ?_))
  have := G.clash (by omega) hk hna
  rw [hcl.1] at this
  cases this
 ·intro hlt
  refine T.up k (Classical.byContradiction fun hna => ?_)
  have := G.clash hlt T.lt hna
  rw [hcl.2] at this
  cases this
theorem Stage.fresh (G : Reg P nt ops l call frs sts fps vs) (T : Taken ops S i) (hf0 : Full ρ0 (sts 0).h) (hst : Stage D B nt ops l frs sts fps ρ0 w0 S a w ρ H) {id : Nat} (h1 : (sts i).h.length ≤ id) (h2 : id < (sts (i + 1)).h.length) : ρ id = none := by
 have hi := T.lt
 cases hx : ρ id with
 | none => rfl
 | some lo =>
  exfalso
  rcases hst.dom id lo hx with ⟨lo0, h0⟩ | ⟨k, hk, hS, h3, h4⟩
  ·have := hf0 id lo0 h0
   have := (G.mono (i := 0) (j := i) (by omega) (by omega)).len
   omega
  ·have hki : k ≠ i := fun e => T.no (e ▸ hS)
   rcases Nat.lt_or_gt_of_ne hki with h | h
   ·have := (G.mono (i := k + 1) (j := i) (by omega) (by omega)).len
    omega
   ·have := (G.mono (i := i + 1) (j := k) (by omega) (by omega)).len
    omega
theorem Stage.given (G : Reg P nt ops l call frs sts fps vs) (T : Taken ops S i) (hst : Stage D B nt ops l frs sts fps ρ0 w0 S a w ρ H) {o : Oper} {r : ROp} (ho : ops[i]? = some o) (hc : cop P o = some r) : Given ρ o.op (ev (frs i)) a.eval := by
 refine ⟨fun x hx => ?_, fun _ => rfl, fun _ => rfl⟩
 have hok := cop_okO hc x hx
 cases x with
 | tmp t =>
  have ht : t ∈ slots ops o := by
   unfold slots
   refine List.mem_append.2 (.inl (List.mem_append.2 (.inr (List.mem_filterMap.2 ⟨.tmp t, by simpa using hx, rfl⟩))))
  exact hst.slot t i (Nat.le_of_lt T.lt) (G.slotCut T ho ht)
 | const v => exact plain_rel hok
 | global g => simp [okO] at hok
 | func f => exact .func (xs := []) (ys := []) rfl fun i a b h => by simp at h
end
end Go.Ai
namespace Go.Ai
open Go.RowKit
variable {P : Program} {ρ ρ' : RM} {w w' : World} {D : List Deferred}
section
variable {nt : Nat} {ops : Array Oper} {l : List ROper} {call : CallF} {frs : Nat → Fr} {sts : Nat → St} {fps : Nat → FP} {vs : Nat → Value}
variable {B : Nat} {ρ0 : RM} {w0 : World} {S : Nat → Prop} {a : Act} {H : Nat → O} {i : Nat}
theorem did_none (hst : WRel B ρ w H) (h1 : sts (i + 1) = sts i) (h2 : fps i = {}) (h3 : vs i = undef) : Did B sts fps vs i ρ ρ w w H H undef :=
 ⟨hst, fun sX _ _ => (Ran.refl B ρ w sX).toRanW, by rw [h3]; exact VRel.undef_ ρ, fun id lo h => .inl h, fun id lo h k => by (rw [h] at k; cases k),
   fun id lo _ _ hw => by (rw [h2] at hw; rcases hw with hw | hw; exact absurd hw (by simp); cases hw), fun id lo _ _ => rfl, fun id hid => by (rw [h2] at hid; exact absurd hid (by simp))⟩
theorem did_step (G : Reg P nt ops l call frs sts fps vs) (T : Taken ops S i) (hf0 : Full ρ0 (sts 0).h) (hst : Stage D B nt ops l frs sts fps ρ0 w0 S a w ρ H) {o : Oper} {r : ROp} (ho : ops[i]? = some o) (hc : cop P o = some r) (hnc : ∀ f x, r ≠ .call f x)
  (hs : step r (ev (frs i)) (sts i) = some (.val (vs i), sts (i + 1))) (hr : (fps i).r = (fpOf r (ev (frs i)) (sts i)).r) (hw : (fps i).w = (fpOf r (ev (frs i)) (sts i)).w) (hb : (fps i).bad = false) :
  ∃ ρ' v' w' H', ((execOp a.eval o).run P w = .ok (.value v') w' ∨ ((execOp a.eval o).run P w = .ok .skip w' ∧ v' = undef)) ∧ Did B sts fps vs i ρ ρ' w w' H H' v' := by
 have hg := hst.given G T ho hc
 have hblk : ∀ b, (b ∈ (fps i).r ∨ b ∈ (fps i).w) → ∀ L, ρ b = some L → b < (sts i).h.length → H b = hp (sts i).h b := fun b hb L hL hlt => hst.blk b L i (Nat.le_of_lt T.lt) hL hlt (G.blkCut T hb)
 have hrel : ∀ b, (b ∈ (fps i).r ∨ b ∈ (fps i).w) → ∀ L, ρ b = some L → CRel ρ w L (hp (sts i).h b) := fun b hb L hL => by
  by_cases hlt : b < (sts i).h.length
  ·rw [← hblk b hb L hL hlt]; exact hst.mem.rel b L hL
  ·rw [hp_none (Nat.not_lt.1 hlt)]; trivial
 have hknown : ∀ b ∈ (fpOf r (ev (frs i)) (sts i)).r ++ (fpOf r (ev (frs i)) (sts i)).w, ∃ L, ρ b = some L :=
  fp_known (w := w) (fun x hx => hg.rel x (cop_fpOps hc x hx)) fun b hb L hL => hrel b (by
   obtain ⟨x, hx, hbx⟩ := List.mem_flatMap.1 hb
   rw [hr, hw]
   exact fp_cover hnc x hx b hbx) L hL
 have hsee : Sees ρ w (sts i).h ((fpOf r (ev (frs i)) (sts i)).r ++ (fpOf r (ev (frs i)) (sts i)).w) := hp_sees hknown fun b hb L hL => hrel b (by rw [hr, hw]; exact List.mem_append.1 hb) L hL
 have hfresh : ∀ id, (sts i).h.length ≤ id → id < (sts (i + 1)).h.length → ρ id = none := fun id h1 h2 => hst.fresh G T hf0 h1 h2
 obtain ⟨⟨ws, ⟨ρ', v', w', hrun, heff, hv⟩, hws⟩, hfl, hlen, hown⟩ := step_ok (w := w) hc hg (fun hne => hfresh _ (Nat.le_refl _) (by have := (G.keptAt T.lt).1.len; omega)) hsee hs
 have hws' : ∀ k ∈ ws, ∃ o, (sts i).h[k]? = some o ∧ o.own = true := fun k hk => (hws k hk).2.2
 have hwlt : ∀ k ∈ ws, k < (sts i).h.length := fun k hk => by obtain ⟨o, h1, _⟩ := hws' k hk; exact (List.getElem?_eq_some_iff.1 h1).1
 have hwk : ∀ k ∈ ws, ∃ l, ρ k = some l := fun k hk => hknown k (List.mem_append.2 (.inr (hws k hk).1))
 have hHk : ∀ k ∈ ws, H k = hp (sts i).h k := fun k hk => by
  obtain ⟨L, hL⟩ := hwk k hk
  exact hblk k (.inr (by rw [hw]; exact (hws k hk).1)) L hL (hwlt k hk)
 have hmem := hst.mem.step heff hws' hHk hwk hlen hown (step_ro hs)
 have hran := Ran.of_step hst.mem heff (fun k hk => by
  obtain ⟨o, h1, h2⟩ := hws' k hk
  rw [hHk k hk, hp_some h1]; exact h2) (fun k hk => (hws k hk).2.1) hfl
 refine ⟨ρ', v', w', _, hrun, hmem, fun sX h1 h2 => hran.toRanW.weaken h1 h2, hv, ?_, ?_, ?_, ?_, ?_⟩
 ·intro id lo hid
  cases hx : ρ id with
  | some lo' =>
   left
   rw [← hx]
   obtain rfl : lo = lo' := Option.some.inj (hid.symm.trans (heff.le id lo' hx))
   rw [hx]
  | none =>
   right
   rcases heff.dom id lo hid with h | h
   ·rw [hx] at h; cases h
   ·exact ⟨rfl, h⟩
 ·intro id lo hid hn
  rcases heff.dom id lo hid with h | h
  ·rw [hn] at h; cases h
  ·unfold touched; rw [if_pos (.inr h)]
 ·intro id lo hid hlt hwr
  rcases hwr with hwr | hwr
  ·unfold touched
   split
   ·rfl
   ·rename_i hnt
    have hnw : id ∉ ws := fun h => hnt (.inl h)
    rw [hblk id (.inr hwr) lo hid hlt]
    have := heff.same id hlt hnw
    simp [hp, List.getD, this]
  ·rw [hb] at hwr; cases hwr
 ·intro id lo hid hno
  unfold touched
  split
  ·rename_i ht
   exfalso
   rcases ht with ht | ht
   ·exact hno ⟨hwlt id ht, .inl (by rw [hw]; exact (hws id ht).1)⟩
   ·rw [hfresh id ht.1 ht.2] at hid; cases hid
  ·rfl
 ·intro id hid
  rw [hw] at hid
  obtain ⟨L, hL⟩ := hknown id (List.mem_append.2 (.inr hid))
  exact ⟨L, heff.le id L hL⟩
theorem Stage.full (G : Reg P nt ops l call frs sts fps vs) (T : Taken ops S i) (hf0 : Full ρ0 (sts 0).h) (hst : Stage D B nt ops l frs sts fps ρ0 w0 S a w ρ H) (hall : (fps i).all = true) (hbad : (fps i).bad = true) :
  (∀ id lo, ρ id = some lo → id < (sts i).h.length ∧ H id = hp (sts i).h id) ∧ SRel B ρ w (sts i) := by
 have hi := T.lt
 have hfull : Full ρ (sts i).h := fun id lo hid => by
  rcases hst.dom id lo hid with ⟨lo0, h0⟩ | ⟨k, hk, hS, h3, h4⟩
  ·exact Nat.lt_of_lt_of_le (hf0 id lo0 h0) (G.mono (i := 0) (j := i) (by omega) (by omega)).len
  ·have hki : k ≠ i := fun e => T.no (e ▸ hS)
   have hal : (fps k).al = true := by rw [(G.keptAt hk).2.2]; simp; omega
   have hlt := (G.callCut T hall hk (.inr (.inr ⟨hal, hbad⟩)) hki).1 hS
   exact Nat.lt_of_lt_of_le h4 (G.mono (i := k + 1) (j := i) (by omega) (by omega)).len
 have hH : ∀ id lo, ρ id = some lo → H id = hp (sts i).h id := fun id lo hid => by
  refine hst.blk id lo i (Nat.le_of_lt hi) hid (hfull id lo hid) fun k hk _ hw => ?_
  by_cases hki : k = i
  ·subst hki
   exact ⟨fun h => absurd h T.no, fun h => absurd h (Nat.lt_irrefl _)⟩
  ·refine G.callCut T hall hk ?_ hki
   rcases hw with hw | hw
   ·exact .inl ⟨id, hw⟩
   ·exact .inr (.inl hw)
 exact ⟨fun id lo hid => ⟨hfull id lo hid, hH id lo hid⟩, ⟨hst.mem.congr hH, hfull⟩⟩
end
end Go.Ai
namespace Go.Ai
open Go.RowKit
variable {P : Program} {ρ ρ' : RM} {w w' : World} {D : List Deferred}
def meet (ρ ρg : RM) : RM := fun id => if (ρg id).isSome then ρ id else none
theorem meet_some {ρg : RM} {id : Nat} {l lg : Loc} (h : ρ id = some l) (hg : ρg id = some lg) : meet ρ ρg id = some l := by simp [meet, hg, h]
theorem meet_dom {ρg : RM} {id : Nat} {l : Loc} (h : meet ρ ρg id = some l) : ρ id = some l ∧ ∃ lg, ρg id = some lg := by
 unfold meet at h
 split at h
 ·rename_i hs; exact ⟨h, Option.isSome_iff_exists.1 hs⟩
 ·cases h
theorem VRel.meet {ρg : RM} {v v' : Value} (h : VRel ρ v v') : ∀ v'', VRel ρg v v'' → VRel (Ai.meet ρ ρg) v v' := by
 induction h with
 | flat h1 h2 => intro _ _; exact .flat h1 h2
 | empty a => intro _ _; exact .empty a
 | ptr h => intro v'' h2; obtain ⟨l, hl, _⟩ := h2.inv_ptr; exact .ptr (meet_some h hl)
 | slice h a b c d => intro v'' h2; obtain ⟨l, _, _, hl, _⟩ := h2.inv_slice; exact .slice (meet_some h hl) a b c d
 | map h => intro v'' h2; obtain ⟨l, hl, _⟩ := h2.inv_map; exact .map (meet_some h hl)
 | func hl _ ih =>
  intro v'' h2
  obtain ⟨_, cap, _, hc⟩ := h2.inv_func
  refine .func hl fun i a b ha hb => ?_
  obtain ⟨b2, _, hb2⟩ := hc.get (i := i) (a := a) (by simpa using ha)
  exact ih i a b ha hb b2 hb2
 | yld h => intro v'' h2; obtain ⟨_, _, l, hl, _⟩ := h2.inv_yld; exact .yld (meet_some h hl)
 | iface _ ih => intro v'' h2; obtain ⟨y, _, hy⟩ := h2.inv_iface; exact .iface (ih y hy)
 | agg hl _ ih =>
  intro v'' h2
  obtain ⟨cs, _, hc⟩ := h2.inv_agg
  refine .agg hl fun i a b ha hb => ?_
  obtain ⟨b2, _, hb2⟩ := hc.get (i := i) (a := a) (by simpa using ha)
  exact ih i a b ha hb b2 hb2
 | tuple hl _ ih =>
  intro v'' h2
  obtain ⟨cs, _, hc⟩ := h2.inv_tuple
  refine .tuple hl fun i a b ha hb => ?_
  obtain ⟨b2, _, hb2⟩ := hc.get (i := i) (a := a) (by simpa using ha)
  exact ih i a b ha hb b2 hb2
theorem LRel.meet {ρg : RM} {xs ys zs : List Value} (h : LRel ρ xs ys) (k : LRel ρg xs zs) : LRel (Ai.meet ρ ρg) xs ys :=
 ⟨h.1, fun i a b ha hb => by obtain ⟨c, hc, hr⟩ := k.get ha; exact (h.2 i a b ha hb).meet c hr⟩
theorem CRel.meet {ρg : RM} {wg : World} {L Lg : Loc} {o : O} (h : CRel ρ w L o) (k : CRel ρg wg Lg o) : CRel (Ai.meet ρ ρg) w L o := by
 cases o with
 | cells c e own =>
  obtain ⟨cs, e', fz, h1, h2, h3⟩ := h
  obtain ⟨cs2, e2, fz2, k1, k2, k3⟩ := k
  exact ⟨cs, e', fz, h1, fun i v hi => let ⟨v', q1, q2⟩ := h2 i v hi; let ⟨v2, _, q4⟩ := k2 i v hi; ⟨v', q1, q2.meet v2 q4⟩, h3⟩
 | map es clock =>
  obtain ⟨es', h1, h3, h4, h5⟩ := h
  obtain ⟨es2, k1, k3, k4, k5⟩ := k
  refine ⟨es', h1, h3, fun i a b ha hb => ?_, h5⟩
  have hi : i < es2.size := by rw [← k3]; exact (List.getElem?_eq_some_iff.1 ha).1
  obtain ⟨x, y, z⟩ := h4 i a b ha hb
  exact ⟨x, y.meet _ (k4 i a es2[i] ha (by simp [hi])).2.1, z⟩
 | iter m since seen stepped =>
  obtain ⟨h0, m', h1, h3⟩ := h
  obtain ⟨_, m2, _, k3⟩ := k
  refine ⟨h0, m', h1, ?_⟩
  cases m with
  | none => exact h3
  | some id =>
   obtain ⟨b, h4, h5⟩ := h3
   obtain ⟨b2, k4, _⟩ := k3
   exact ⟨b, meet_some h4 k4, h5⟩
 | loop busy nt fr ps as bd =>
  obtain ⟨r, h1, h2, h3, h4, h5, h6, h7, h8, h9⟩ := h
  obtain ⟨r', _, _, _, _, _, _, _, _, k9⟩ := k
  exact ⟨r, h1, h2, h3, h4, h5, h6, h7, h8, fun i => (h9 i).meet _ (k9 i)⟩
 | dead => trivial
section
variable {nt : Nat} {ops : Array Oper} {l : List ROper} {call : CallF} {frs : Nat → Fr} {sts : Nat → St} {fps : Nat → FP} {vs : Nat → Value}
variable {B : Nat} {ρ0 : RM} {w0 : World} {S : Nat → Prop} {a : Act} {H : Nat → O} {i : Nat}
theorem Reg.ghost {F : Fence} (hF : Open F) (hcall : CallsOkD F P B call) (G : Reg P nt ops l call frs sts fps vs) {a0 : Act} (h0 : FRel D ρ0 nt (frs 0) a0) (hS0 : SRel B ρ0 w0 (sts 0)) :
  ∀ j, j ≤ ops.size → ∃ ρg wg ag, FRel D ρg nt (frs j) ag ∧ SRel B ρg wg (sts j) := by
 intro j
 induction j with
 | zero => intro _; exact ⟨ρ0, w0, a0, h0, hS0⟩
 | succ j ih =>
  intro hj
  obtain ⟨ρg, wg, ag, hf, hS⟩ := ih (by omega)
  obtain ⟨r, hr, hco, hts⟩ := G.step (k := j) (by omega)
  obtain ⟨o, ho, hc, hdst, hdlt, _, _⟩ := coper_spec hco
  have next : ∀ (v' : Value) (st1 : St) (ρ1 : RM) (w1 : World), sts (j + 1) = st1 → VRel ρ1 (vs j) v' → SRel B ρ1 w1 st1 → ρg.le ρ1 → ∃ ρg wg ag, FRel D ρg nt (frs (j + 1)) ag ∧ SRel B ρg wg (sts (j + 1)) := by
   intro v' st1 ρ1 w1 he hv hS1 hle
   refine ⟨ρ1, w1, ag.put r.dst v', ?_, he ▸ hS1⟩
   rw [hts.put, hdst]
   exact (hf.mono hle).putD hdlt hv
  rcases hts.act with ⟨_, hv, hs, _⟩ | ⟨_, hop⟩
  ·exact next undef (sts j) ρg wg hs (by rw [hv]; exact VRel.undef_ _) hS (RM.le_refl _)
  ·have hgiven := given_of hc hf
   by_cases hcl : ∃ f x, r.op = .call f x
   ·obtain ⟨f, x, hcl⟩ := hcl
    rw [hcl] at hop hc
    unfold opD at hop
    split at hop
    ·rename_i f' x' heq
     obtain ⟨rfl, rfl⟩ := ROp.call.inj heq
     split at hop
     ·cases hop
     rename_i hy
     split at hop
     ·rename_i v2 st2 hdc
      simp only [Option.some.injEq, Prod.mk.injEq] at hop
      obtain ⟨rfl, hst2, hfp⟩ := hop
      unfold doCall at hdc
      split at hdc
      ·rename_i g args ht
       obtain ⟨hcb, hok⟩ := hcall _ _ _ _ _ hdc (target_lt ht hy)
       obtain ⟨vs', hvs, hrun⟩ := run_callOp (w := wg) hc hgiven ht (target_lt ht hy) hcb
       obtain ⟨_, hcs⟩ := hok rfl 0 ρg wg vs' hvs (hS.fl _)
       obtain ⟨e, w1, fr, hpost, _⟩ := hcs [] (fun d hd => by rw [hF.depth] at hd; cases hd)
       cases e with
       | returned v' =>
        obtain ⟨v, st1, ρ1, ⟨h1, rfl⟩, h2, h3, h4⟩ := hpost
        obtain rfl := Out.ret.inj h1
        exact next v' _ ρ1 w1 hst2.symm h2 ⟨h3.mem, h3.full⟩ h4.le
       | panicked chain => obtain ⟨v, v', st1, ρ1, ⟨h1, _⟩, _⟩ := hpost; cases h1
       | outgrown => exact hpost.elim
      ·cases hdc
     ·cases hop
    ·rename_i hne
     exact absurd rfl (hne f x)
   ·have hnc : ∀ f x, r.op ≠ .call f x := fun f x e => hcl ⟨f, x, e⟩
    have hs : Ai.step r.op (ev (frs j)) (sts j) = some (.val (vs j), sts (j + 1)) := by
     unfold opD at hop
     split at hop
     ·rename_i f x heq; exact absurd heq (hnc f x)
     ·split at hop
      ·rename_i v2 st2 h1
       simp only [Option.some.injEq, Prod.mk.injEq] at hop
       obtain ⟨rfl, rfl, h2⟩ := hop
       exact h1
      ·cases hop
    have hk : ∀ b ∈ (fpOf r.op (ev (frs j)) (sts j)).w, ∃ L, ρg b = some L := fun b hb =>
     fp_known (e' := ag.eval) (w := wg) (fun x hx => ev_rel hf (cop_okO hc x (cop_fpOps hc x hx))) (fun b _ L hL => hS.mem.rel b L hL) b (List.mem_append.2 (.inr hb))
    obtain ⟨ρ1, v', w1, hrun, hv, hS1, hran⟩ := hS.step (step_ok hc hgiven (fun _ => hS.full.dom) (sees_of hc hf hS) hs) hk (step_ro hs)
    exact next v' _ ρ1 w1 rfl hv hS1 hran.le
theorem Stage.agree (G : Reg P nt ops l call frs sts fps vs) (T : Taken ops S i) (hst : Stage D B nt ops l frs sts fps ρ0 w0 S a w ρ H) (hall : (fps i).all = true) :
  ∀ id lo, ρ id = some lo → id < (sts i).h.length → H id = hp (sts i).h id := fun id lo hid hlt => by
 refine hst.blk id lo i (Nat.le_of_lt T.lt) hid hlt fun k hk _ hw => ?_
 by_cases hki : k = i
 ·subst hki
  exact ⟨fun h => absurd h T.no, fun h => absurd h (Nat.lt_irrefl _)⟩
 ·refine G.callCut T hall hk ?_ hki
  rcases hw with hw | hw
  ·exact .inl ⟨id, hw⟩
  ·exact .inr (.inl hw)
theorem Stage.meet (G : Reg P nt ops l call frs sts fps vs) (T : Taken ops S i) (hst : Stage D B nt ops l frs sts fps ρ0 w0 S a w ρ H) (hall : (fps i).all = true) {ρg : RM} {wg : World} (hg : SRel B ρg wg (sts i)) :
  SRel B (Ai.meet ρ ρg) w (sts i) := by
 have hd : ∀ id l, Ai.meet ρ ρg id = some l → ρ id = some l ∧ id < (sts i).h.length ∧ H id = hp (sts i).h id := fun id l h => by
  obtain ⟨h1, lg, h2⟩ := meet_dom h
  have := hg.full id lg h2
  exact ⟨h1, this, hst.agree G T hall id l h1 this⟩
 refine ⟨⟨hst.mem.base, fun id l h => ?_, fun id l h hr => ?_, fun id l h hr => ?_, fun x y lx ly hxy hx hy hb hB => ?_⟩, fun id l h => (hd id l h).2.1⟩
 ·obtain ⟨h1, h2, h3⟩ := hd id l h
  obtain ⟨_, lg, h4⟩ := meet_dom h
  have := hst.mem.rel id l h1
  rw [h3] at this
  exact this.meet (hg.mem.rel id lg h4)
 ·obtain ⟨h1, h2, h3⟩ := hd id l h
  exact hst.mem.ro id l h1 (by rw [h3]; exact hr)
 ·obtain ⟨h1, h2, h3⟩ := hd id l h
  exact hst.mem.own id l h1 (by rw [h3]; exact hr)
 ·obtain ⟨h1, h2, h3⟩ := hd x lx hx
  obtain ⟨k1, _, _⟩ := hd y ly hy
  rw [← h3]
  exact hst.mem.sep x y lx ly hxy h1 k1 hb hB
theorem did_call (G : Reg P nt ops l call frs sts fps vs) (T : Taken ops S i) (hf0 : Full ρ0 (sts 0).h) (hst : Stage D B nt ops l frs sts fps ρ0 w0 S a w ρ H) (hall : (fps i).all = true) (hwn : (fps i).w = []) (hbad : (fps i).bad = false)
  {ρg : RM} {wg : World} (hg : SRel B ρg wg (sts i)) {st1 : St} {ρ1 : RM} {w1 : World} {v' : Value} (hh : (sts (i + 1)).h = st1.h) (hfl : (sts i).h.length ≤ st1.fl)
  (hv : VRel ρ1 (vs i) v') (hS1 : SRel B ρ1 w1 st1) (hran : Ran B (Ai.meet ρ ρg) ρ1 w w1 { sts i with fl := (sts i).h.length } st1) :
  ∃ ρ' H', Did B sts fps vs i ρ ρ' w w1 H H' v' := by
 have hd : ∀ id l, Ai.meet ρ ρg id = some l → ρ id = some l ∧ id < (sts i).h.length := fun id l h => by
  obtain ⟨h1, lg, h2⟩ := meet_dom h
  exact ⟨h1, hg.full id lg h2⟩
 have kept : ∀ k, k < w.heap.size → w1.heap[k]? = w.heap[k]? := fun k hk => hran.keep k hk fun id l hl _ => Nat.lt_of_lt_of_le (hd id l hl).2 hfl
 have hnew : ∀ id l, ρ1 id = some l → Ai.meet ρ ρg id = none → ρ id = none ∧ (sts i).h.length ≤ id ∧ id < (sts (i + 1)).h.length ∧ w.heap.size ≤ l.b := fun id l h1 h2 => by
  have q1 : (sts i).h.length ≤ id := hran.fresh id l h1 h2
  have q2 : id < st1.h.length := hS1.full id l h1
  have q3 : id < (sts (i + 1)).h.length := by rw [hh]; exact q2
  refine ⟨hst.fresh G T hf0 q1 q3, q1, q3, ?_⟩
  rcases (hran.place id l h1 h2).2 with h | ⟨k, lk, hk1, _, hk3⟩
  ·exact h
  ·have := (hd k lk hk1).2; omega
 have hold : ∀ id l, ρ id = some l → l.b < w.heap.size := fun id l h => by
  by_cases hr : (H id).ro = true
  ·exact Nat.lt_of_lt_of_le (hst.mem.ro id l h hr) hst.mem.base
  ·exact (hst.mem.own id l h (by simpa using hr)).2
 have hle1 : ρ1.le (fun id => match ρ id with | some l => some l | none => ρ1 id) := fun id l h1 => by
  cases hm : Ai.meet ρ ρg id with
  | some l2 =>
   obtain rfl : l = l2 := Option.some.inj (h1.symm.trans (hran.le id l2 hm))
   simp [(hd id l hm).1]
  | none => simp [(hnew id l h1 hm).1, h1]
 have hle : ρ.le (fun id => match ρ id with | some l => some l | none => ρ1 id) := fun id l h => by simp [h]
 have hcase : ∀ id l, (match ρ id with | some l => some l | none => ρ1 id) = some l → ρ id = some l ∨ (ρ id = none ∧ ρ1 id = some l ∧ Ai.meet ρ ρg id = none) := fun id l h => by
  cases hx : ρ id with
  | some l2 => rw [hx] at h; exact .inl h
  | none =>
   rw [hx] at h
   refine .inr ⟨rfl, h, ?_⟩
   cases hm : Ai.meet ρ ρg id with
   | none => rfl
   | some l2 => rw [(hd id l2 hm).1] at hx; cases hx
 refine ⟨fun id => match ρ id with | some l => some l | none => ρ1 id, fun id => if (ρ id).isSome then H id else hp st1.h id, ⟨Nat.le_trans hst.mem.base hran.size, ?_, ?_, ?_, ?_⟩, ?_, hv.mono hle1, ?_, ?_, ?_, ?_, ?_⟩
 ·intro id l h
  rcases hcase id l h with h | ⟨h1, h2, h3⟩
  ·simp only [h, Option.isSome_some, if_true]
   exact ((hst.mem.rel id l h).same (kept l.b (hold id l h))).mono hle
  ·simp only [h1, Option.isSome_none, Bool.false_eq_true, if_false]
   exact (hS1.mem.rel id l h2).mono hle1
 ·intro id l h hr
  rcases hcase id l h with h | ⟨h1, h2, h3⟩
  ·simp only [h, Option.isSome_some, if_true] at hr
   exact hst.mem.ro id l h hr
  ·simp only [h1, Option.isSome_none, Bool.false_eq_true, if_false] at hr
   exact hS1.mem.ro id l h2 hr
 ·intro id l h hr
  rcases hcase id l h with h | ⟨h1, h2, h3⟩
  ·simp only [h, Option.isSome_some, if_true] at hr
   exact ⟨(hst.mem.own id l h hr).1, Nat.lt_of_lt_of_le (hst.mem.own id l h hr).2 hran.size⟩
  ·simp only [h1, Option.isSome_none, Bool.false_eq_true, if_false] at hr
   exact hS1.mem.own id l h2 hr
 ·intro x y lx ly hxy hx hy hb hB
  rcases hcase x lx hx with h1 | ⟨h1, h2, h3⟩ <;> rcases hcase y ly hy with k1 | ⟨k1, k2, k3⟩
  ·simp only [h1, Option.isSome_some, if_true]
   exact hst.mem.sep x y lx ly hxy h1 k1 hb hB
  ·have := (hnew y ly k2 k3).2.2.2
   have := hold x lx h1
   omega
  ·have := (hnew x lx h2 h3).2.2.2
   have := hold y ly k1
   omega
  ·simp only [h1, Option.isSome_none, Bool.false_eq_true, if_false]
   exact hS1.mem.sep x y lx ly hxy h2 k2 hb hB
 ·intro sX q1 q2
  refine ⟨hle, hran.os, hran.tape, hran.output, hran.size, hran.below, fun k hk _ => kept k hk, Nat.le_refl _, Nat.le_refl _, fun id l h hn => ?_⟩
  rcases hcase id l h with h | ⟨h1, h2, h3⟩
  ·rw [hn] at h; cases h
  ·obtain ⟨_, _, p3, p4⟩ := hnew id l h2 h3
   exact ⟨Nat.lt_of_lt_of_le p3 q2, .inl p4⟩
 ·intro id lo h
  rcases hcase id lo h with h | ⟨h1, h2, h3⟩
  ·exact .inl h
  ·obtain ⟨_, p2, p3, _⟩ := hnew id lo h2 h3
   exact .inr ⟨h1, p2, p3⟩
 ·intro id lo h hn
  simp [hn, hh]
 ·intro id lo h hlt hw
  rcases hw with hw | hw
  ·rw [hwn] at hw; cases hw
  ·rw [hbad] at hw; cases hw
 ·intro id lo h _
  simp [h]
 ·intro id hid
  rw [hwn] at hid; cases hid
end
end Go.Ai
namespace Go.Ai
open Go.RowKit
variable {P : Program} {ρ ρ' : RM} {w w' : World} {D : List Deferred}
section
variable {nt : Nat} {ops : Array Oper} {l : List ROper} {call : CallF} {frs : Nat → Fr} {sts : Nat → St} {fps : Nat → FP} {vs : Nat → Value}
variable {B : Nat} {ρ0 : RM} {w0 : World} {S : Nat → Prop} {a : Act} {H : Nat → O} {i : Nat}
theorem stage_op {F : Fence} (hF : Open F) {n : Nat} {Q' : Exit → Act → World → Prop} {K : Act → World → Prop} (hcall : CallsOkD F P B call) (G : Reg P nt ops l call frs sts fps vs) (T : Taken ops S i) (hf0 : Full ρ0 (sts 0).h)
  (hst : Stage D B nt ops l frs sts fps ρ0 w0 S a w ρ H) (hgh : ∃ ρg wg ag, FRel D ρg nt (frs i) ag ∧ SRel B ρg wg (sts i)) (hK : ∀ a' w' ρ' H', Stage D B nt ops l frs sts fps ρ0 w0 (fun k => S k ∨ k = i) a' w' ρ' H' → K a' w') : wpOpIn F n P ops Q' i K a w := by
 obtain ⟨r, hr, hco, hts⟩ := G.step T.lt
 obtain ⟨o, ho, hc, hdst, hdlt, hgd, _⟩ := coper_spec hco
 have hnext : ∀ {ρ' v' w' H'}, Did B sts fps vs i ρ ρ' w w' H H' v' → K (a.put o.dst v') w' := fun hd => hK _ _ _ _ (hdst ▸ hst.next G T.lt hr T.no T.down hd)
 have hwt : Region.wanted o (yielded ops a.tmps) = wanted (frs i) r.guard := wanted_rel hco ho fun d wv hg => by
  have hd : d ∈ Ai.slots ops o := by
   rcases hgd with ⟨h1, _⟩ | ⟨j, d', wv', h1, h2, _, h4⟩
   ·rw [h1] at hg; cases hg
   ·rw [h4] at hg
    simp only [Option.some.injEq, Prod.mk.injEq] at hg
    obtain ⟨rfl, rfl⟩ := hg
    unfold Ai.slots
    rw [h1]
    simp [h2]
  exact hst.slot d i (Nat.le_of_lt T.lt) (G.slotCut T ho hd)
 unfold wpOpIn
 simp only [ho, hwt]
 rcases hts.act with ⟨hw, hv, hs, hfp⟩ | ⟨hw, hop⟩
 ·rw [hw]
  exact ⟨fun f _ => hF.fn f, hnext (did_none hst.mem hs hfp hv)⟩
 ·rw [if_pos hw]
  refine wpIn_of_run hF hc ?_
  by_cases hcl : ∃ f x, r.op = .call f x
  ·obtain ⟨f, x, hcl⟩ := hcl
   rw [hcl] at hop hc
   unfold opD at hop
   split at hop
   ·rename_i f' x' heq
    obtain ⟨rfl, rfl⟩ := ROp.call.inj heq
    split at hop
    ·cases hop
    rename_i hy
    split at hop
    ·rename_i v2 st2 hdc
     simp only [Option.some.injEq, Prod.mk.injEq] at hop
     obtain ⟨rfl, hst2, hfp⟩ := hop
     have hall : (fps i).all = true := by rw [← hfp]
     have hwn : (fps i).w = [] := by rw [← hfp]
     cases hbad : (fps i).bad with
     | true =>
      obtain ⟨hag, hS⟩ := hst.full G T hf0 hall hbad
      unfold doCall at hdc
      split at hdc
      ·rename_i g args ht
       obtain ⟨hcb, hok⟩ := hcall _ _ _ _ _ hdc (target_lt ht hy)
       obtain ⟨vs', hvs, hrun⟩ := run_callOp (w := w) hc (hst.given G T ho hc) ht (target_lt ht hy) hcb
       rw [hrun]
       refine ⟨fun h => absurd h (by rw [hF.depth]; simp), ?_⟩
       refine (hok rfl (n - 1) ρ w vs' hvs (hS.fl _)).mono fun e w1 he => ?_
       cases e with
       | returned v' =>
        obtain ⟨v, st1, ρ1, ⟨h1, rfl⟩, h2, h3, h4⟩ := he
        obtain rfl := Out.ret.inj h1
        have hj := h4.joined hS.full
        rw [hst2] at hj
        have hh : (sts (i + 1)).h = st1.h := by rw [← hst2]; rfl
        refine hnext (H' := hp (sts (i + 1)).h) ⟨by rw [hh]; exact h3.mem, fun sX q1 q2 => hj.toRanW.weaken q1 q2, h2, ?_, fun _ _ _ _ => rfl, fun _ _ _ _ _ => rfl, ?_, fun id hid => by rw [hwn] at hid; cases hid⟩
        ·intro id lo hid
         cases hx : ρ id with
         | some lo' =>
          left
          obtain rfl : lo = lo' := Option.some.inj (hid.symm.trans (hj.le id lo' hx))
          rfl
         | none => exact .inr ⟨rfl, hj.fresh id lo hid hx, (hj.place id lo hid hx).1⟩
        ·intro id lo hid hno
         obtain ⟨q1, q2⟩ := hag id lo hid
         exact absurd ⟨q1, .inr hbad⟩ hno
       | panicked chain => obtain ⟨v, v', st1, ρ1, ⟨h1, _⟩, _⟩ := he; cases h1
       | outgrown => exact he.elim
      ·cases hdc
     | false =>
      obtain ⟨ρg, wg, ag, hgf, hgS⟩ := hgh
      unfold doCall at hdc
      split at hdc
      ·rename_i g args ht
       obtain ⟨hcb, hok⟩ := hcall _ _ _ _ _ hdc (target_lt ht hy)
       obtain ⟨vs', hvs, hrun⟩ := run_callOp (w := w) hc (hst.given G T ho hc) ht (target_lt ht hy) hcb
       obtain ⟨vs2, hvs2, _⟩ := run_callOp (w := wg) hc (given_of hc hgf) ht (target_lt ht hy) hcb
       rw [hrun]
       refine ⟨fun h => absurd h (by rw [hF.depth]; simp), ?_⟩
       refine (hok rfl (n - 1) (meet ρ ρg) w vs' (hvs.meet hvs2) ((hst.meet G T hall hgS).fl _)).mono fun e w1 he => ?_
       cases e with
       | returned v' =>
        obtain ⟨v, st1, ρ1, ⟨h1, rfl⟩, h2, h3, h4⟩ := he
        obtain rfl := Out.ret.inj h1
        have hh : (sts (i + 1)).h = st1.h := by rw [← hst2]; rfl
        have hfl : (sts i).h.length ≤ st1.fl := by
         rw [← hfp] at hbad
         simpa using hbad
        obtain ⟨ρ', H', hd⟩ := did_call G T hf0 hst hall hwn hbad hgS hh hfl h2 h3 h4
        exact hnext hd
       | panicked chain => obtain ⟨v, v', st1, ρ1, ⟨h1, _⟩, _⟩ := he; cases h1
       | outgrown => exact he.elim
      ·cases hdc
    ·cases hop
   ·rename_i hne
    exact absurd rfl (hne f x)
  ·have hnc : ∀ f x, r.op ≠ .call f x := fun f x e => hcl ⟨f, x, e⟩
   have hs : step r.op (ev (frs i)) (sts i) = some (.val (vs i), sts (i + 1)) ∧ (fps i) = { fpOf r.op (ev (frs i)) (sts i) with al := (sts (i + 1)).h.length != (sts i).h.length } := by
    unfold opD at hop
    split at hop
    ·rename_i f x heq; exact absurd heq (hnc f x)
    ·split at hop
     ·rename_i v2 st2 h1
      simp only [Option.some.injEq, Prod.mk.injEq] at hop
      obtain ⟨rfl, rfl, h2⟩ := hop
      exact ⟨h1, h2.symm⟩
     ·cases hop
   obtain ⟨ρ', v', w', H', hrun, hd⟩ := did_step G T hf0 hst ho hc hnc hs.1 (by rw [hs.2]) (by rw [hs.2]) (by rw [hs.2]; exact fpOf_bad.1)
   exact uponIn_step hrun (hnext hd)
theorem edges_back {ops : Array Oper} (h : edgesOk ops = true) {k : Nat} {o : Oper} (ho : ops[k]? = some o) : ∀ e ∈ o.after, Region.binds .any e = true → e.on < k := by
 have hk : k < ops.size := (Array.getElem?_eq_some_iff.1 ho).1
 have := List.all_eq_true.1 h k (List.mem_range.2 hk)
 rw [ho] at this
 intro e he hb
 simpa [hb] using Array.all_eq_true_iff_forall_mem.1 this e he
theorem stages {F : Fence} (hF : Open F) {n : Nat} {Q' : Exit → Act → World → Prop} (hcall : CallsOkD F P B call) (G : Reg P nt ops l call frs sts fps vs) (hf0 : Full ρ0 (sts 0).h) (hgh : ∀ j, j ≤ ops.size → ∃ ρg wg ag, FRel D ρg nt (frs j) ag ∧ SRel B ρg wg (sts j))
  (hQ : ∀ a w ρ H, Stage D B nt ops l frs sts fps ρ0 w0 (fun k => k < ops.size) a w ρ H → Q' .normal a w) : ∀ (fuel : Nat) (listed : Array Bool) (a : Act) (w : World) (ρ : RM) (H : Nat → O), listed.size = ops.size →
  ((List.range ops.size).filter fun k => !listed.getD k false).length ≤ fuel → (∀ x y, listed.getD x false = true → anc ops x y → listed.getD y false = true) →
  Stage D B nt ops l frs sts fps ρ0 w0 (fun k => listed.getD k false = true) a w ρ H → wpAnyIn F n P .any ops Q' fuel listed a w := by
 -- where nothing is ready all has been taken
 have hdone : ∀ (listed : Array Bool) (a : Act) (w : World) (ρ : RM) (H : Nat → O), listed.size = ops.size → Region.ready .any ops listed = [] → Stage D B nt ops l frs sts fps ρ0 w0 (fun k => listed.getD k false = true) a w ρ H → Q' .normal a w := by
  intro listed a w ρ H hsz hrd hst
  have hall : ∀ k, k < ops.size → listed.getD k false = true := by
   intro k
   induction k using Nat.strongRecOn with
   | ind k ih =>
    intro hk
    refine Classical.byContradiction fun hn => ?_
    have hko : ops[k]? = some ops[k] := by simp [hk]
    have : k ∈ Region.ready .any ops listed := mem_ready.2 ⟨by
     have : k < listed.size := by rw [hsz]; exact hk
     simp [Array.getD_eq_getD_getElem?, this] at hn ⊢
     exact hn, _, hko, fun e he hb => ih e.on (edges_back G.edges hko e he hb) (Nat.lt_trans (edges_back G.edges hko e he hb) hk)⟩
    rw [hrd] at this
    cases this
  have heq : (fun k => listed.getD k false = true) = fun k => k < ops.size := by
   funext k
   refine propext ⟨fun h => ?_, hall k⟩
   refine Classical.byContradiction fun hn => ?_
   have : listed.size ≤ k := by omega
   simp [Array.getD_eq_getD_getElem?, Array.getElem?_eq_none this] at h
  rw [heq] at hst
  exact hQ a w ρ H hst
 intro fuel
 induction fuel with
 | zero =>
  intro listed a w ρ H hsz hfu hdn hst
  have hrd : Region.ready .any ops listed = [] := by
   refine List.eq_nil_iff_forall_not_mem.2 fun k hk => ?_
   obtain ⟨h1, o, ho, _⟩ := mem_ready.1 hk
   have hk' : k < ops.size := (Array.getElem?_eq_some_iff.1 ho).1
   have h0 : ((List.range ops.size).filter fun k => !listed.getD k false) = [] := List.length_eq_zero_iff.1 (by omega)
   have := List.filter_eq_nil_iff.1 h0 k (List.mem_range.2 hk')
   have hs : k < listed.size := by rw [hsz]; exact hk'
   simp [Array.getD_eq_getD_getElem?, hs] at this h1
   rw [h1] at this; cases this
  exact ⟨hrd, hdone listed a w ρ H hsz hrd hst⟩
 | succ fuel ih =>
  intro listed a w ρ H hsz hfu hdn hst
  refine ⟨fun hrd => hdone listed a w ρ H hsz hrd hst, fun i hi => ?_⟩
  obtain ⟨h1, o, ho, hedge⟩ := mem_ready.1 hi
  have hi' : i < ops.size := (Array.getElem?_eq_some_iff.1 ho).1
  have hs : i < listed.size := by rw [hsz]; exact hi'
  have hno : listed.getD i false = false := by simp [Array.getD_eq_getD_getElem?, hs] at h1 ⊢; exact h1
  have T : Taken ops (fun k => listed.getD k false = true) i := by
   refine ⟨hi', by rw [hno]; simp, fun j hj => ?_, hdn⟩
   obtain ⟨e, he, hb, h2⟩ := before_spec ho hj
   have hl := hedge e he hb
   rcases h2 with rfl | h2
   ·exact hl
   ·exact hdn e.on j hl h2
  have hset : ∀ k, (listed.setIfInBounds i true).getD k false = true ↔ (listed.getD k false = true ∨ k = i) := fun k => by
   by_cases hk : k = i
   ·subst hk; simp [Array.getD_eq_getD_getElem?, hs]
   ·rw [getD_set_ne false (Ne.symm hk)]; simp [hk]
  refine stage_op hF hcall G T hf0 hst (hgh i (Nat.le_of_lt hi')) fun a' w' ρ' H' hst' => ?_
  refine ih _ a' w' ρ' H' (by simp [hsz]) ?_ ?_ ?_
  ·have hsub : ((List.range ops.size).filter fun k => !(listed.setIfInBounds i true).getD k false) = ((List.range ops.size).filter fun k => !listed.getD k false).filter fun k => k != i := by
    rw [List.filter_filter]
    refine List.filter_congr fun k _ => ?_
    have := hset k
    by_cases hk : k = i
    ·subst hk; simp [this.2 (.inr rfl)]
    ·rw [getD_set_ne false (Ne.symm hk)]; simp [hk]
   rw [hsub]
   have hmem : i ∈ (List.range ops.size).filter fun k => !listed.getD k false := List.mem_filter.2 ⟨List.mem_range.2 hi', by rw [hno]; rfl⟩
   have := (List.length_filter_lt_length_iff_exists (p := fun k => k != i)).2 ⟨i, hmem, by simp⟩
   omega
  ·intro x y hx hxy
   rw [hset] at hx ⊢
   rcases hx with hx | rfl
   ·exact .inl (hdn x y hx hxy)
   ·exact .inl (T.up y hxy)
  ·have : (fun k => (listed.setIfInBounds i true).getD k false = true) = fun k => listed.getD k false = true ∨ k = i := by funext k; exact propext (hset k)
   rw [this]; exact hst'
theorem drawOk {F : Fence} (hF : Open F) (hm : P.follows .mixedOrders = true) {B : Nat} : DrawOk F P B CallKept := by
 intro call hcall hk D n nt id ops l fr st e fr' st' a w ρ Q' hl hr hf hS hQ
 obtain ⟨frs, sts, fps, vs, G, e1, e2, e3, e4⟩ := Reg.of hl hr hk
 refine wpIn_region_any hm ?_
 have hno : ∀ k, (Array.replicate ops.size false).getD k false = false := fun k => by
  rw [Array.getD_eq_getD_getElem?]
  by_cases h : k < ops.size
  ·simp [h]
  ·rw [Array.getElem?_eq_none (by simp; omega)]; rfl
 have hS' : SRel B ρ { w with drawn := w.drawn + 1 } st := ⟨⟨hS.mem.base, fun id l h => (hS.mem.rel id l h).same rfl, hS.mem.ro, hS.mem.own, hS.mem.sep⟩, hS.full⟩
 have hran : RanW B ρ ρ w { w with drawn := w.drawn + 1 } st st := ⟨RM.le_refl ρ, rfl, rfl, rfl, Nat.le_refl _, fun _ _ => rfl, fun _ _ _ => rfl, Nat.le_refl _, Nat.le_refl _, fun id l h k => by rw [h] at k; cases k⟩
 refine stages (D := D) hF hcall G (ρ0 := ρ) (w0 := w) (B := B) (by rw [e2]; exact hS.full) (G.ghost hF hcall (by rw [e1]; exact hf) (by rw [e2]; exact hS)) (fun a' w' ρ' H hst => ?_) ops.size _ a _ ρ (hp st.h) (by simp) ?_ (fun x y h => by rw [hno] at h; cases h) ?_
 ·have hfr : FRel D ρ' nt fr' a' := ⟨hst.tsize, fun t => by
   rw [← e3]
   exact hst.slot t ops.size (Nat.le_refl _) fun k r hk _ => ⟨fun h => h, fun h => h⟩, hst.defers⟩
  have hfull : Full ρ' st'.h := fun id lo hid => by
   rw [← e4]
   rcases hst.dom id lo hid with ⟨lo0, h0⟩ | ⟨k, hk', _, _, h4⟩
   ·have := hS.full id lo0 h0
    rw [← e2] at this
    exact Nat.lt_of_lt_of_le this (G.mono (Nat.zero_le _) (Nat.le_refl _)).len
   ·exact Nat.lt_of_lt_of_le h4 (G.mono (by omega) (Nat.le_refl _)).len
  have hmem : WRel B ρ' w' (hp st'.h) := hst.mem.congr fun id lo hid => by
   rw [← e4]
   exact hst.blk id lo ops.size (Nat.le_refl _) hid (by rw [e4]; exact hfull id lo hid) fun k hk _ _ => ⟨fun h => h, fun h => h⟩
  have hw : RanW B ρ ρ' w w' st st' := by
   have h0 := G.mono (i := 0) (j := ops.size) (Nat.zero_le _) (Nat.le_refl _)
   have := hst.ran (sts ops.size) h0.fl h0.len fun k hk _ => ⟨(G.mono (i := k + 1) (by omega) (Nat.le_refl _)).fl, (G.mono (i := k + 1) (by omega) (Nat.le_refl _)).len⟩
   rw [e2, e4] at this
   exact this
  refine hQ ρ' a' w' hfr ⟨hmem, hfull⟩ ⟨hw, fun id lo hid hn => ?_⟩
  rcases hst.dom id lo hid with ⟨lo0, h0⟩ | ⟨k, hk', _, h3, _⟩
  ·rw [hn] at h0; cases h0
  ·rw [← e2]
   exact Nat.le_trans (G.mono (i := 0) (j := k) (Nat.zero_le _) (by omega)).len h3
 ·exact Nat.le_trans (List.length_filter_le _ _) (by simp)
 ·refine ⟨hS'.mem, hf.size, hf.defers, fun sF h1 h2 _ => ?_, fun t j hj hc => ?_, fun id lo j hj hid hlt hc => ?_, fun id lo hid => .inl ⟨lo, hid⟩, fun k _ hk => by rw [hno] at hk; cases hk⟩
  ·rw [e2] at h1 h2 ⊢
   exact ⟨hran.le, hran.os, hran.tape, hran.output, hran.size, hran.below, fun k hk hid => rfl, h1, h2, fun id l h k => by rw [h] at k; cases k⟩
  ·have : get (frs j) t = get (frs 0) t := G.slotStable (Nat.zero_le _) hj fun k r _ hkj hk hd => by
    have := (hc k r hk hd).2 hkj
    rw [hno] at this; cases this
   rw [this, e1]
   exact hf.rel t
  ·have hid0 : id < (sts 0).h.length := by rw [e2]; exact hS.full id lo hid
   rw [← e2]
   refine (G.stable (Nat.zero_le _) hj hid0 fun k _ hkj => ?_).symm
   have hlk : id < (sts k).h.length := Nat.lt_of_lt_of_le hid0 (G.mono (Nat.zero_le _) (by omega)).len
   have hnot : ¬ (id ∈ (fps k).w ∨ (fps k).bad = true) := fun hk => by
    have := (hc k (by omega) hlk hk).2 hkj
    rw [hno] at this; cases this
   simp only [not_or, Bool.not_eq_true] at hnot
   exact hnot
end
end Go.Ai
namespace Go.Ai
open Go.RowKit
variable {P : Program}
theorem open_wide : Open Fence.wide := ⟨fun _ => trivial, rfl⟩
theorem runOk_wide {B : Nat} {E : Env} (hm : P.follows .mixedOrders = true) (hE : EnvOk Fence.wide P B E) (hS : SumsKept E) (m : Nat) : RunOk Fence.wide P B E m :=
 runOk open_wide rfl hE (K := CallKept) (fun m => callKept_of hS (exec_kept hS m)) (fun o => drawOk (F := { Fence.wide with round := o }) ⟨fun _ => trivial, rfl⟩ hm) m
theorem runOk_in {B : Nat} {E : Env} (hm : P.follows .mixedOrders = true) (hE : EnvOk Fence.wide P B E) (hS : SumsKept E) (m l : Nat) : RunOk (Fence.wide.inRound l) P B E m :=
 runOk_all open_wide rfl hE (K := CallKept) (fun m => callKept_of hS (exec_kept hS m)) (fun o => drawOk (F := { Fence.wide with round := o }) ⟨fun _ => trivial, rfl⟩ hm) m (some l)
theorem callsOk_wide {B : Nat} {E : Env} (hm : P.follows .mixedOrders = true) (hE : EnvOk Fence.wide P B E) (hS : SumsKept E) (m : Nat) : CallsOk Fence.wide P B (callP E m) :=
 callsOk_of open_wide rfl hE (runOk_wide hm hE hS m) (fun l => runOk_in hm hE hS m l)
theorem calls_of_exec {B : Nat} {E : Env} (hm : P.follows .mixedOrders = true) (hE : EnvOk Fence.wide P B E) (hS : SumsKept E) {m : Nat} {f : FuncId} {args : List Value} {st st' : St} {o : Out} (h : call E m f args st = some (o, st')) (hf : f < yB) (hfl : st.fl = st.h.length)
  {ρ : RM} {w : World} {args' : List Value} (ha : LRel ρ args args') (hr : SRel B ρ w st) : Calls P f args'.toArray w (CPost B ρ w st fun o2 st2 => o2 = o ∧ st2 = st') :=
 callsIn_wide.1 ((callsOkD_of (callsOk_wide hm hE hS m) f args st o st' h hf).2 hfl 0 ρ w args' ha hr)
end Go.Ai
namespace Go.Ai
inductive Sh where
 | int (k : IntKind)
 | bool
 | slice (es : List Sh)
def szB : List Sh → Nat
 | [.int .i64] => 8
 | [.slice _] => 24
 | [.int .i64, .int .i64, .int .i64, .int .i64, .int .i64] => 40
 | _ => 1
def shapesFs (P : Program) (sh : TypeId → Option (List Sh)) : Nat → List Field → Option (List Sh)
 | _, [] => some []
 | off, f :: fs => match sh f.type with
  | some m => if f.offset = off ∧ P.cellsOf f.type = m.length then (shapesFs P sh (off + m.length) fs).map (m ++ ·) else none
  | none => none
def shapes (P : Program) : Nat → TypeId → Option (List Sh)
 | 0, _ => none
 | d + 1, t => match P.underlying t with
  | some (.int k) => some [.int k]
  | some .bool => some [.bool]
  | some (.slice e) => match shapes P d e with
   | some es => if P.cellsOf e = es.length ∧ 0 < es.length ∧ szB es ≤ P.bytesOf e then some [.slice es] else none
   | none => none
  | some (.struct fs) => match shapesFs P (shapes P d) 0 fs.toList with
   | some l => if P.cellsOf t = l.length then some l else none
   | none => none
  | some (.array n e) => match shapes P d e with
   | some es => if P.cellsOf e = es.length ∧ P.cellsOf t = n * es.length then some ((List.replicate n es).flatten) else none
   | none => none
  | _ => none
inductive Fits (h : List O) : Sh → Value → Prop
 | int {k n} : (Lit.int k n).wf = true → Fits h (.int k) (.int k n)
 | bool {b} : Fits h .bool (.bool b)
 | slice {es a n c} (b o : Nat) (vs : Nat → List Value) : n * szB es ≤ reachBytes ∧ n ≤ c ∧ (∀ b' o', a = some ⟨b', o', none⟩ → ∀ k, tagOk h k b' = true) → (0 < n → a = some ⟨b, o, none⟩) → (∀ i, i < n → rdN h b (o + i * es.length) es.length = some (vs i)) →
   (∀ (i j : Nat) (s : Sh) (v : Value), i < n → es[j]? = some s → (vs i)[j]? = some v → Fits h s v) → Fits h (.slice es) (.slice a n c)
theorem tagOk_ext {h h' : List O} (e : Ext h h') {k b : Nat} (ht : tagOk h k b = true) : tagOk h' k b = true := by
 obtain ⟨x, rfl⟩ := e
 unfold tagOk at ht ⊢
 cases hb : h[b]? with
 | none => rw [hb] at ht; simp at ht
 | some y => rw [List.getElem?_append_left (List.getElem?_eq_some_iff.1 hb).1, hb]; rw [hb] at ht; exact ht
theorem Fits.ext {h h' : List O} (k : Ext h h') {s : Sh} {v : Value} (hf : Fits h s v) : Fits h' s v := by
 induction hf with
 | int hw => exact .int hw
 | bool => exact .bool
 | slice b o vs h1 h2 h3 _ ih => exact .slice b o vs ⟨h1.1, h1.2.1, fun b' o' ha j => tagOk_ext k (h1.2.2 b' o' ha j)⟩ h2 (fun i hi => k.rdN (h3 i hi)) ih
def FitsL (h : List O) (shs : List Sh) (cs : List Value) : Prop := cs.length = shs.length ∧ ∀ (j : Nat) s v, shs[j]? = some s → cs[j]? = some v → Fits h s v
theorem FitsL.ext {h h' : List O} (k : Ext h h') {shs : List Sh} {cs : List Value} (hf : FitsL h shs cs) : FitsL h' shs cs := ⟨hf.1, fun j s v h1 h2 => (hf.2 j s v h1 h2).ext k⟩
theorem FitsL.nil (h : List O) : FitsL h [] [] := ⟨rfl, fun j s v h1 => by simp at h1⟩
theorem FitsL.append {h : List O} {s1 s2 : List Sh} {c1 c2 : List Value} (h1 : FitsL h s1 c1) (h2 : FitsL h s2 c2) : FitsL h (s1 ++ s2) (c1 ++ c2) := by
 refine ⟨by simp [h1.1, h2.1], fun j s v hs hv => ?_⟩
 by_cases hj : j < s1.length
 ·rw [List.getElem?_append_left hj] at hs
  rw [List.getElem?_append_left (by have := h1.1; omega)] at hv
  exact h1.2 j s v hs hv
 ·rw [List.getElem?_append_right (by omega)] at hs
  rw [List.getElem?_append_right (by have := h1.1; omega), h1.1] at hv
  exact h2.2 _ s v hs hv
def Canon (w : World) (shs : List Sh) (cs : List Value) : Prop :=
 ∀ (ρ : RM) (st : St), SRel w.heap.size ρ w st → ∃ ρ' l cs0, ρ.le ρ' ∧ SRel w.heap.size ρ' w ⟨st.h ++ l, st.fl⟩ ∧ LRel ρ' cs0 cs ∧ FitsL (st.h ++ l) shs cs0
theorem Canon.nil (w : World) : Canon w [] [] := fun ρ st h => ⟨ρ, [], [], RM.le_refl ρ, by simpa using h, LRel.nil ρ, FitsL.nil _⟩
theorem Canon.append {w : World} {s1 s2 : List Sh} {c1 c2 : List Value} (h1 : Canon w s1 c1) (h2 : Canon w s2 c2) : Canon w (s1 ++ s2) (c1 ++ c2) := by
 intro ρ st h
 obtain ⟨ρ1, l1, x1, a1, a2, a3, a4⟩ := h1 ρ st h
 obtain ⟨ρ2, l2, x2, b1, b2, b3, b4⟩ := h2 ρ1 ⟨st.h ++ l1, st.fl⟩ a2
 refine ⟨ρ2, l1 ++ l2, x1 ++ x2, RM.le_trans a1 b1, by rw [← List.append_assoc]; exact b2, (a3.mono b1).append b3, ?_⟩
 rw [← List.append_assoc]
 exact (a4.ext (Ext.snoc _ _)).append b4
theorem Canon.flat {w : World} {s : Sh} {v : Value} (hv : Ai.flat v = true) (he : isE v = false) (hf : ∀ h, Fits h s v) : Canon w [s] [v] := fun ρ st h =>
 ⟨ρ, [], [v], RM.le_refl ρ, by simpa using h, LRel.cons (.flat hv he) (LRel.nil ρ), ⟨rfl, fun j s' v' h1 h2 => by
  match j with
  | 0 => simp at h1 h2; subst h1 h2; exact hf _
  | j + 1 => simp at h1⟩⟩
theorem Canon.rep {w : World} {es : List Sh} {c : Nat → List Value} : ∀ n, (∀ i, i < n → Canon w es (c i)) → Canon w ((List.replicate n es).flatten) ((List.range n).flatMap c) := by
 intro n
 induction n with
 | zero => intro _; exact Canon.nil w
 | succ n ih =>
  intro h
  rw [List.range_succ, List.flatMap_append, List.replicate_succ', List.flatten_append]
  simp only [List.flatMap_cons, List.flatMap_nil, List.append_nil, List.flatten_cons, List.flatten_nil]
  exact (ih fun i hi => h i (by omega)).append (h n (by omega))
theorem cell_heap {w : World} {a : Addr} {v : Value} (h : w.cell? a = some v) : ∃ c e fz, w.heap[a.block]? = some (.cells c e fz) ∧ a.spot = none ∧ c[a.off]? = some v := by
 unfold World.cell? at h
 split at h
 ·rename_i c e fz hc
  split at h
  ·cases h
  ·rename_i hs
   exact ⟨c, e, fz, hc, by simpa using hs, h⟩
 ·cases h
theorem cells_heap {w : World} {base : Nat} {a : Addr} {n : Nat} {cs : List Value} (h : w.cells? base a n = some cs) (hn : 0 < n) :
  cs.length = n ∧ ∃ c e fz, w.heap[a.block]? = some (.cells c e fz) ∧ a.spot = none ∧ ∀ j, j < n → c[a.off + j]? = cs[j]? := by
 unfold World.cells? at h
 split at h
 ·have hl := mapM_some_length h
  simp at hl
  have h0 := mapM_some_get h 0 0 (by simp [hn])
  have hc0 : (0 : Nat) < cs.length := by omega
  rw [show a.add 0 = a from by simp [Addr.add], List.getElem?_eq_getElem hc0] at h0
  obtain ⟨c, e, fz, h1, h2, h3⟩ := cell_heap h0
  refine ⟨hl, c, e, fz, h1, h2, fun j hj => ?_⟩
  have hj' := mapM_some_get h j j (by simp [hj])
  rw [List.getElem?_eq_getElem (by omega)] at hj' ⊢
  obtain ⟨c', e', fz', k1, k2, k3⟩ := cell_heap hj'
  have hb : (a.add j).block = a.block := by unfold Addr.add; split <;> rfl
  have ho : (a.add j).off = a.off + j := by unfold Addr.add; split <;> simp_all
  rw [hb, h1] at k1
  cases k1
  rw [ho] at k3
  exact k3
 ·cases h
theorem CellsRel_of {ρ : RM} {c0 : List Value} {cs : Array Value} {sh : Nat} {c : List Value} (hr : LRel ρ c0 c) (hc : ∀ j, j < c.length → cs[sh + j]? = c[j]?) : CellsRel ρ c0 cs sh := fun i v hv => by
 obtain ⟨b, hb, hvb⟩ := hr.get hv
 have hi : i < c.length := (List.getElem?_eq_some_iff.1 hb).1
 exact ⟨b, by rw [hc i hi]; exact hb, hvb⟩
theorem SRel.addRead {w : World} {ρ : RM} {st : St} (hS : SRel w.heap.size ρ w st) {c0 c : List Value} {cs : Array Value} {e e' : TypeId} {fz : Nat × Nat} {b o : Nat} (hb : w.heap[b]? = some (.cells cs e' fz)) (hr : LRel ρ c0 c) (hc : ∀ j, j < c.length → cs[o + j]? = c[j]?) :
  SRel w.heap.size (upd ρ st.h.length ⟨b, o, 0, 0⟩) w ⟨st.h ++ [.cells c0 e none], st.fl⟩ ∧ ρ.le (upd ρ st.h.length ⟨b, o, 0, 0⟩) := by
 have hno : ρ st.h.length = none := hS.full.dom
 have hle : ρ.le (upd ρ st.h.length ⟨b, o, 0, 0⟩) := fun id l h => by
  unfold upd
  split
  ·rename_i heq; rw [heq, hno] at h; cases h
  ·exact h
 have hcase : ∀ id l, upd ρ st.h.length ⟨b, o, 0, 0⟩ id = some l → (id = st.h.length ∧ l = ⟨b, o, 0, 0⟩) ∨ (id < st.h.length ∧ ρ id = some l) := fun id l h => by
  unfold upd at h
  split at h
  ·rename_i heq; cases h; exact .inl ⟨heq, rfl⟩
  ·exact .inr ⟨hS.full id l h, h⟩
 have hold : ∀ id, id < st.h.length → hp (st.h ++ [.cells c0 e none]) id = hp st.h id := fun id h => by simp [hp, List.getD, List.getElem?_append_left h]
 have hnew : hp (st.h ++ [.cells c0 e none]) st.h.length = .cells c0 e none := by simp [hp, List.getD]
 have hblt : b < w.heap.size := (Array.getElem?_eq_some_iff.1 hb).1
 refine ⟨⟨⟨Nat.le_refl _, fun id l h => ?_, fun id l h hr' => ?_, fun id l h hr' => ?_, fun i j li lj hij hi hj hbb hB => ?_⟩, fun id l h => ?_⟩, hle⟩
 ·rcases hcase id l h with ⟨rfl, rfl⟩ | ⟨h1, h2⟩
  ·show CRel _ w _ (hp (st.h ++ [.cells c0 e none]) st.h.length)
   rw [hnew]
   exact ⟨cs, e', fz, hb, (CellsRel_of hr hc).mono hle, (fun s hs => by cases hs), fun _ => rfl⟩
  ·show CRel _ w l (hp (st.h ++ [.cells c0 e none]) id)
   rw [hold id h1]
   exact (hS.mem.rel id l h2).mono hle
 ·rcases hcase id l h with ⟨rfl, rfl⟩ | ⟨h1, h2⟩
  ·exact hblt
  ·have : hp (st.h ++ [.cells c0 e none]) id = hp st.h id := hold id h1
   exact hS.mem.ro id l h2 (by rw [← this]; exact hr')
 ·rcases hcase id l h with ⟨rfl, rfl⟩ | ⟨h1, h2⟩
  ·have h3 : (hp (st.h ++ [.cells c0 e none]) st.h.length).ro = false := hr'
   rw [hnew] at h3
   simp [O.ro] at h3
  ·have : hp (st.h ++ [.cells c0 e none]) id = hp st.h id := hold id h1
   exact hS.mem.own id l h2 (by rw [← this]; exact hr')
 ·have lt : ∀ id l, upd ρ st.h.length ⟨b, o, 0, 0⟩ id = some l → (∃ o', hp (st.h ++ [.cells c0 e none]) id = o' ∧ o'.ro = true) ∨ (id < st.h.length ∧ ρ id = some l) := fun id l h => by
   rcases hcase id l h with ⟨rfl, rfl⟩ | h
   ·exact .inl ⟨_, hnew, rfl⟩
   ·exact .inr h
  rcases hcase i li hi with ⟨rfl, rfl⟩ | ⟨h1, h2⟩
  ·exact absurd hB (by simp; omega)
  ·rcases hcase j lj hj with ⟨rfl, rfl⟩ | ⟨k1, k2⟩
   ·have : li.b = b := hbb
    omega
   ·show hp (st.h ++ [.cells c0 e none]) i = .dead
    rw [hold i h1]
    exact hS.mem.sep i j li lj hij h2 k2 hbb hB
 ·rcases hcase id l h with ⟨rfl, rfl⟩ | ⟨h1, h2⟩
  ·simp
  ·simp; omega
theorem flatMap_len {α : Type} {c : Nat → List α} {sz : Nat} : ∀ n, (∀ i, i < n → (c i).length = sz) → ((List.range n).flatMap c).length = n * sz := by
 intro n
 induction n with
 | zero => intro _; simp
 | succ n ih =>
  intro h
  rw [List.range_succ, List.flatMap_append, List.length_append, ih fun i hi => h i (by omega)]
  simp [h n (by omega), Nat.add_mul]
theorem flatMap_get {α : Type} {c : Nat → List α} {sz : Nat} : ∀ n, (∀ i, i < n → (c i).length = sz) → ∀ i j, i < n → j < sz → ((List.range n).flatMap c)[i * sz + j]? = (c i)[j]? := by
 intro n
 induction n with
 | zero => intro _ i j hi; omega
 | succ n ih =>
  intro h i j hi hj
  have hl := flatMap_len n fun i hi => h i (by omega)
  rw [List.range_succ, List.flatMap_append]
  by_cases hin : i < n
  ·have : i * sz + j < n * sz := by
    have : (i + 1) * sz ≤ n * sz := Nat.mul_le_mul_right sz (by omega)
    rw [Nat.add_mul] at this
    omega
   rw [List.getElem?_append_left (by rw [hl]; exact this)]
   exact ih (fun i hi => h i (by omega)) i j hin hj
  ·have : i = n := by omega
   subst this
   rw [List.getElem?_append_right (by rw [hl]; omega), hl]
   simp
theorem split_index {n sz k : Nat} (hk : k < n * sz) : ∃ i j, k = i * sz + j ∧ i < n ∧ j < sz := by
 have hsz : 0 < sz := by
  rcases Nat.eq_zero_or_pos sz with h | h
  ·subst h; simp at hk
  ·exact h
 refine ⟨k / sz, k % sz, by rw [Nat.mul_comm]; exact (Nat.div_add_mod k sz).symm, ?_, Nat.mod_lt _ hsz⟩
 rw [Nat.div_lt_iff_lt_mul hsz]; exact hk
theorem repl_flat {α : Type} (n : Nat) (es : List α) : (List.replicate n es).flatten = (List.range n).flatMap fun _ => es := by
 induction n with
 | zero => rfl
 | succ n ih =>
  rw [List.replicate_succ', List.flatten_append, ih, List.range_succ, List.flatMap_append]
  simp
section
variable {H : Type} {enc : TypeId × Value → H} {P : Program} {w : World}
theorem canon_slice {es : List Sh} (hes : 0 < es.length) {a : Addr} {len cap : Nat} (hlc : len ≤ cap) (hlen : len * szB es ≤ reachBytes) {ci : Nat → List Value} (hc : ∀ i, i < len → w.cells? 0 (a.add (i * es.length)) es.length = some (ci i)) (hcan : ∀ i, i < len → Canon w es (ci i))
  (hcap : 0 < cap → ∃ cs, w.cells? 0 a es.length = some cs) : Canon w [.slice es] [.slice (some a) len cap] := by
 intro ρ st hS
 by_cases h0 : cap = 0
 ·have : len = 0 := by omega
  subst h0 this
  exact ⟨ρ, [], [emptyS], RM.le_refl ρ, by simpa using hS, LRel.cons (.empty a) (LRel.nil ρ), ⟨rfl, fun j s v h1 h2 => by
   match j with
   | 0 => simp at h1 h2; subst h1 h2; exact .slice 0 0 (fun _ => []) ⟨by simp, Nat.le_refl _, fun b' o' h => by cases h⟩ (fun h => absurd h (Nat.lt_irrefl _)) (fun i hi => absurd hi (Nat.not_lt_zero _)) (fun i j s v hi => absurd hi (Nat.not_lt_zero _))
   | j + 1 => simp at h1⟩⟩
 ·obtain ⟨cs0, hi0⟩ := hcap (by omega)
  obtain ⟨_, cb, eb, fzb, hb0, hsp, _⟩ := cells_heap hi0 hes
  have hblk : ∀ k, (a.add k).block = a.block := fun k => by unfold Addr.add; split <;> rfl
  have hoff : ∀ k, (a.add k).off = a.off + k := fun k => by unfold Addr.add; split <;> simp_all
  obtain ⟨ρ1, l1, c0, a1, a2, a3, a4⟩ := Canon.rep len hcan ρ st hS
  have hcl : ∀ i, i < len → (ci i).length = es.length := fun i hi => (cells_heap (hc i hi) hes).1
  have hfl := flatMap_len len hcl
  have hmem : ∀ j, j < ((List.range len).flatMap ci).length → cb[a.off + j]? = ((List.range len).flatMap ci)[j]? := fun k hk => by
   rw [hfl] at hk
   obtain ⟨i, j, rfl, hi, hj⟩ := split_index hk
   rw [flatMap_get len hcl i j hi hj]
   obtain ⟨_, c2, e2, fz2, k1, _, k3⟩ := cells_heap (hc i hi) hes
   rw [hblk, hb0] at k1
   cases k1
   have := k3 j hj
   rw [hoff, Nat.add_assoc] at this
   exact this
  obtain ⟨hS2, hle2⟩ := a2.addRead (e := 0) hb0 a3 hmem
  have hc0 : c0.length = len * es.length := by rw [a3.1, hfl]
  refine ⟨upd ρ1 (st.h ++ l1).length ⟨a.block, a.off, 0, 0⟩, l1 ++ [.cells c0 0 none], [.slice (some ⟨(st.h ++ l1).length, 0, none⟩) len cap], RM.le_trans a1 hle2, by rw [← List.append_assoc]; exact hS2, LRel.cons ?_ (LRel.nil _), ⟨rfl, fun j s v h1 h2 => ?_⟩⟩
  ·have ha : a = ⟨a.block, a.off, none⟩ := by rw [← hsp]
   rw [ha]
   exact .slice (l := ⟨a.block, a.off, 0, 0⟩) (by simp [upd]) (Nat.le_refl _) (.inl rfl) hlc (.inl rfl)
  ·match j with
   | 0 =>
    simp at h1 h2
    subst h1 h2
    rw [← List.append_assoc]
    have hrd : ∀ i, i < len → rdN (st.h ++ l1 ++ [.cells c0 0 none]) (st.h ++ l1).length (0 + i * es.length) es.length = some ((c0.drop (i * es.length)).take es.length) := fun i hi => by
     have : (i + 1) * es.length ≤ len * es.length := Nat.mul_le_mul_right _ (by omega)
     rw [Nat.add_mul] at this
     rw [rdN_append_right0, rdN_cells, Nat.zero_add, if_pos (by omega)]
    have := Fits.slice (h := st.h ++ l1 ++ [.cells c0 0 none]) (es := es) (a := some ⟨(st.h ++ l1).length, 0, none⟩) (n := len) (c := cap) (st.h ++ l1).length 0 (fun i => (c0.drop (i * es.length)).take es.length) ⟨hlen, hlc, fun b' o' hb' k => by cases hb'; simp [tagOk]⟩ (fun _ => rfl) hrd (fun i j s v hi h1 h2 => by
     have hj : j < es.length := (List.getElem?_eq_some_iff.1 h1).1
     rw [List.getElem?_take_of_lt hj, List.getElem?_drop] at h2
     refine (a4.2 (i * es.length + j) s v ?_ h2).ext (Ext.snoc _ _)
     rw [repl_flat, flatMap_get len (fun _ _ => rfl) i j hi hj]
     exact h1)
    simpa using this
   | j + 1 => simp at h1
theorem canon_fields {d : Nat} {sh : TypeId → Option (List Sh)} {cs : List Value} : ∀ (fs : List Field) (off : Nat) (shs : List Sh), shapesFs P sh off fs = some shs → cs.length = off + shs.length →
  (∀ f ∈ fs, ∀ m, sh f.type = some m → Canon w m ((cs.drop f.offset).take (P.cellsOf f.type))) → Canon w shs (cs.drop off) := by
 intro fs
 induction fs with
 | nil =>
  intro off shs hsh hl _
  simp only [shapesFs, Option.some.injEq] at hsh
  subst hsh
  rw [List.drop_of_length_le (by simp at hl; omega)]
  exact Canon.nil w
 | cons f fs ih =>
  intro off shs hsh hl hf
  simp only [shapesFs] at hsh
  split at hsh
  ·rename_i m hm
   split at hsh
   ·rename_i hoff
    obtain ⟨rfl, hce⟩ := hoff
    simp only [Option.map_eq_some_iff] at hsh
    obtain ⟨s2, h2, rfl⟩ := hsh
    rw [List.length_append] at hl
    have h1 := hf f (by simp) m hm
    rw [hce] at h1
    have h3 := ih _ _ h2 (by omega) fun g hg => hf g (by simp [hg])
    have e : cs.drop f.offset = (cs.drop f.offset).take m.length ++ cs.drop (f.offset + m.length) := by
     rw [← List.drop_drop, List.take_append_drop]
    rw [e]
    exact h1.append h3
   ·cases hsh
  ·cases hsh
theorem canon : ∀ (d : Nat) (fuel : Nat) (t : TypeId) (cs : List Value) (x : DataW H × List MemPlace) (shs : List Sh), shapes P d t = some shs → DataW.trod enc P w 0 (fun _ => true) true fuel t cs = some x →
  (∀ n ∈ x.1.weights P t, n ≤ reachBytes) → Canon w shs cs := by
 intro d
 induction d with
 | zero => intro fuel t cs x shs h; simp [shapes] at h
 | succ d ih =>
  intro fuel t cs x shs hsh hx hwt
  simp only [shapes] at hsh
  split at hsh
  ·rename_i k ht
   obtain rfl := Option.some.inj hsh
   obtain ⟨n, rfl, rfl, hwf⟩ := DataW.trod_int ht hx
   exact Canon.flat rfl rfl fun h => .int hwf
  ·rename_i ht
   obtain rfl := Option.some.inj hsh
   obtain ⟨b, rfl, rfl⟩ := DataW.trod_bool ht hx
   exact Canon.flat rfl rfl fun h => .bool
  ·rename_i e ht
   split at hsh
   ·rename_i es hes
    split at hsh
    ·rename_i hcond
     obtain rfl := Option.some.inj hsh
     obtain ⟨hce, hpos, hby⟩ := hcond
     rcases DataW.trod_slice ht hx with ⟨rfl, rfl⟩ | ⟨a, len, cap, elems, rest, n, rfl, rfl, rfl, _, hlc, _, hel, hi, hspare, _⟩
     ·exact Canon.flat rfl rfl fun h => .slice 0 0 (fun _ => []) ⟨by simp, Nat.le_refl _, fun b' o' h => by cases h⟩ (fun h => absurd h (Nat.lt_irrefl _)) (fun i hi => absurd hi (Nat.not_lt_zero _)) (fun i j s v hi => absurd hi (Nat.not_lt_zero _))
     ·obtain ⟨hr1, hr2⟩ := hspare rfl
      rw [hce] at hi hr2
      have hwt1 : (elems.length + rest.length) * P.bytesOf e ≤ reachBytes := by
       have := hwt ((elems.length + rest.length) * P.bytesOf e) (by simp [DataW.weights, ht])
       exact this
      have hlen : len * szB es ≤ reachBytes := by
       have h1 : (elems.length + rest.length) * szB es ≤ (elems.length + rest.length) * P.bytesOf e := Nat.mul_le_mul_left _ hby
       have h2 : len * szB es ≤ (elems.length + rest.length) * szB es := Nat.mul_le_mul_right _ (by omega)
       omega
      have hsome : ∀ i, i < len → ∃ c y, w.cells? 0 (a.add (i * es.length)) es.length = some c ∧ DataW.trod enc P w 0 (fun _ => true) true n e c = some y ∧ y ∈ elems := fun i hil => by
       have := hi i hil
       rw [List.getElem?_eq_getElem (by omega)] at this
       simp only [Option.bind_eq_some_iff] at this
       obtain ⟨c, h1, h2⟩ := this
       exact ⟨c, _, h1, h2, List.getElem_mem _⟩
      refine canon_slice hpos hlc hlen (ci := fun i => if hil : i < len then (hsome i hil).choose else []) (fun i hil => ?_) (fun i hil => ?_) (fun hcap => ?_)
      ·simp only [hil, dif_pos]
       obtain ⟨y, h1, _⟩ := (hsome i hil).choose_spec
       exact h1
      ·simp only [hil, dif_pos]
       obtain ⟨y, h1, h2, h3⟩ := (hsome i hil).choose_spec
       refine ih n e _ y es hes h2 fun m hm => hwt m ?_
       simp only [DataW.weights, ht, List.mem_cons, List.mem_append]
       refine .inr (.inl ?_)
       have key : ∀ (l : List (DataW H × List MemPlace)), y ∈ l → m ∈ DataW.weightsAll P e (l.map (·.1)) := by
        intro l
        induction l with
        | nil => intro h; cases h
        | cons z l ihl =>
         intro h
         simp only [List.map_cons, DataW.weightsAll, List.mem_append]
         rcases List.mem_cons.1 h with rfl | h
         ·exact .inl hm
         ·exact .inr (ihl h)
       exact key elems h3
      ·rcases Nat.eq_zero_or_pos len with h0 | h0
       ·subst h0
        have := hr2 0 (by omega)
        rw [List.getElem?_eq_getElem (by omega)] at this
        simp only [Option.bind_eq_some_iff] at this
        obtain ⟨c, h1, _⟩ := this
        exact ⟨c, by simpa [Addr.add] using h1⟩
       ·obtain ⟨c, _, h1, _⟩ := hsome 0 h0
        exact ⟨c, by simpa [Addr.add] using h1⟩
    ·cases hsh
   ·cases hsh
  ·rename_i fs ht
   split at hsh
   ·rename_i l hl
    split at hsh
    ·rename_i hcl
     obtain rfl := Option.some.inj hsh
     obtain ⟨xs, n, rfl, rfl, hlen, hxs, hf⟩ := DataW.trod_struct ht hx
     have := canon_fields (w := w) (P := P) (d := d) (sh := shapes P d) (cs := cs) fs.toList 0 l hl (by omega) fun f hfm m hm => by
      obtain ⟨i, hi, hfi⟩ := List.mem_iff_getElem.1 hfm
      have hi' : i < fs.size := by simpa using hi
      have h1 := hf i f (by rw [Array.getElem?_eq_getElem hi']; simpa using hfi)
      rw [List.getElem?_eq_getElem (by omega)] at h1
      refine ih n f.type _ _ m hm h1 fun k hk => hwt k ?_
      simp only [DataW.weights, ht]
      refine DataW.weights_mem_each (j := i) (t := f.type) (d := (xs[i]).1) ?_ ?_ k hk
      ·rw [List.getElem?_map, List.getElem?_eq_getElem hi, hfi]; rfl
      ·simp [List.getElem?_eq_getElem (show i < xs.length by omega)]
     simpa using this
    ·cases hsh
   ·cases hsh
  ·rename_i n e ht
   split at hsh
   ·rename_i es hes
    split at hsh
    ·rename_i hcond
     obtain rfl := Option.some.inj hsh
     obtain ⟨hce, hct⟩ := hcond
     cases fuel with
     | zero => simp [DataW.trod] at hx
     | succ fuel =>
      unfold DataW.trod at hx
      rw [ht] at hx
      have hx' : (if cs.length = P.cellsOf t then ((List.range n).mapM fun i => DataW.trod enc P w 0 (fun _ => true) true fuel e ((cs.drop (i * P.cellsOf e)).take (P.cellsOf e))).map fun xs => (DataW.agg (xs.map (·.1)), xs.flatMap (·.2)) else none) = some x := by
       revert hx
       split <;> simp_all
      split at hx'
      ·rename_i hcl
       simp only [Option.map_eq_some_iff] at hx'
       obtain ⟨xs, hxs, rfl⟩ := hx'
       have hxl := mapM_some_length hxs
       simp at hxl
       rw [hce] at hxs
       have hlen : cs.length = n * es.length := by omega
       have hpart : ∀ i, i < n → Canon w es ((cs.drop (i * es.length)).take es.length) := fun i hi => by
        have h1 := mapM_some_get hxs i i (by simp [hi])
        rw [List.getElem?_eq_getElem (by omega)] at h1
        refine ih fuel e _ _ es hes h1 fun k hk => hwt k ?_
        simp only [DataW.weights, ht]
        have key : ∀ (l : List (DataW H × List MemPlace)) y, y ∈ l → k ∈ y.1.weights P e → k ∈ DataW.weightsAll P e (l.map (·.1)) := by
         intro l
         induction l with
         | nil => intro y h; cases h
         | cons z l ihl =>
          intro y h hm
          simp only [List.map_cons, DataW.weightsAll, List.mem_append]
          rcases List.mem_cons.1 h with rfl | h
          ·exact .inl hm
          ·exact .inr (ihl y h hm)
        exact key xs _ (List.getElem_mem _) hk
       have := Canon.rep n hpart
       have e2 : (List.range n).flatMap (fun i => (cs.drop (i * es.length)).take es.length) = cs := by
        have hpl : ∀ i, i < n → ((cs.drop (i * es.length)).take es.length).length = es.length := fun i hi => by
         have : (i + 1) * es.length ≤ n * es.length := Nat.mul_le_mul_right _ (by omega)
         rw [Nat.add_mul] at this
         simp; omega
        apply List.ext_getElem?
        intro k
        by_cases hk : k < n * es.length
        ·obtain ⟨i, j, rfl, hi, hj⟩ := split_index hk
         rw [flatMap_get n hpl i j hi hj, List.getElem?_take_of_lt hj, List.getElem?_drop]
        ·rw [List.getElem?_eq_none (by rw [flatMap_len n hpl]; omega), List.getElem?_eq_none (by omega)]
       rw [e2] at this
       exact this
      ·cases hx'
    ·cases hsh
   ·cases hsh
  ·cases hsh
end
end Go.Ai
namespace Go.Ai
open Go.ChangeShapes
section
variable {H : Type} {enc : TypeId × Value → H} {P : Program} {w : World}
theorem trod_sp {sp : Nat → Bool} : ∀ (d : Nat) (fuel : Nat) (t : TypeId) (cs : List Value) (x : DataW H × List MemPlace) (shs : List Sh), shapes P d t = some shs → DataW.trod enc P w 0 (fun _ => true) true fuel t cs = some x →
  (∀ p ∈ x.2, sp p.block = true) → DataW.trod enc P w 0 sp true fuel t cs = some x := by
 intro d
 induction d with
 | zero => intro fuel t cs x shs h; simp [shapes] at h
 | succ d ih =>
  intro fuel t cs x shs hsh hx hsp
  cases fuel with
  | zero => simp [DataW.trod] at hx
  | succ n =>
  simp only [shapes] at hsh
  split at hsh
  ·rename_i k ht
   obtain ⟨m, rfl, rfl, hwf⟩ := DataW.trod_int ht hx
   simp [DataW.trod, ht, hwf]
  ·rename_i ht
   obtain ⟨b, rfl, rfl⟩ := DataW.trod_bool ht hx
   simp [DataW.trod, ht]
  ·rename_i e ht
   split at hsh
   ·rename_i es hes
    split at hsh
    ·rename_i hcond
     obtain ⟨hce, hpos, hby⟩ := hcond
     rcases DataW.trod_slice ht hx with ⟨rfl, rfl⟩ | ⟨a, len, cap, elems, rest, n', hn, rfl, rfl, _, hlc, hcm, hel, hi, hspare, _⟩
     ·simp [DataW.trod, ht]
     ·obtain rfl : n = n' := by omega
      obtain ⟨hr1, hr2⟩ := hspare rfl
      simp only [List.mem_append, List.mem_flatMap] at hsp
      have hel' : ∀ i, i < len → ((w.cells? 0 (a.add (i * P.cellsOf e)) (P.cellsOf e)).bind (DataW.trod enc P w 0 sp true n e)) = elems[i]? := fun i hil => by
       have h1 := hi i hil
       rw [List.getElem?_eq_getElem (by omega)] at h1 ⊢
       simp only [Option.bind_eq_some_iff] at h1 ⊢
       obtain ⟨c, q1, q2⟩ := h1
       exact ⟨c, q1, ih n e c _ es hes q2 fun p hp => hsp p (.inr ⟨_, .inl (List.getElem_mem _), hp⟩)⟩
      have hre' : ∀ j, j < cap - len → ((w.cells? 0 (a.add ((len + j) * P.cellsOf e)) (P.cellsOf e)).bind (DataW.trod enc P w 0 sp true n e)) = rest[j]? := fun j hj => by
       have h1 := hr2 j hj
       rw [List.getElem?_eq_getElem (by omega)] at h1 ⊢
       simp only [Option.bind_eq_some_iff] at h1 ⊢
       obtain ⟨c, q1, q2⟩ := h1
       exact ⟨c, q1, ih n e c _ es hes q2 fun p hp => hsp p (.inr ⟨_, .inr (List.getElem_mem _), hp⟩)⟩
      have m1 : (List.range len).mapM (fun i => (w.cells? 0 (a.add (i * P.cellsOf e)) (P.cellsOf e)).bind (DataW.trod enc P w 0 sp true n e)) = some elems :=
       mapM_some_of_get _ _ (by simp [hel]) fun i x hix => by
        obtain ⟨h1, h2⟩ := List.getElem?_eq_some_iff.1 hix
        simp at h1 h2
        subst h2
        exact hel' i h1
      have m2 : (List.range (cap - len)).mapM (fun j => (w.cells? 0 (a.add ((len + j) * P.cellsOf e)) (P.cellsOf e)).bind (DataW.trod enc P w 0 sp true n e)) = some rest :=
       mapM_some_of_get _ _ (by simp [hr1]) fun i x hix => by
        obtain ⟨h1, h2⟩ := List.getElem?_eq_some_iff.1 hix
        simp at h1 h2
        subst h2
        exact hre' i h1
      have hsa : sp a.block = true ∨ cap - len = 0 := by
       by_cases h0 : cap - len = 0
       ·exact .inr h0
       ·left
        refine hsp (.cell a.block (a.off + 0)) (.inl (MemPlace.mem_row.2 ⟨0, ?_, rfl⟩))
        rw [hce]
        exact Nat.mul_pos (by omega) hpos
      simp only [DataW.trod, ht]
      rw [if_pos ⟨Nat.zero_le _, hlc, hcm⟩, m1]
      simp only [Option.bind_some]
      rcases hsa with h | h
      ·rw [if_pos h, m2]; rfl
      ·have : rest = [] := List.length_eq_zero_iff.1 (by omega)
       subst this
       split
       ·rw [m2]; rfl
       ·rfl
    ·cases hsh
   ·cases hsh
  ·rename_i fs ht
   split at hsh
   ·rename_i l hl
    obtain ⟨xs, n', hn, rfl, hlen, hxs, hf⟩ := DataW.trod_struct ht hx
    obtain rfl : n = n' := by omega
    have hsh2 : ∀ f ∈ fs.toList, ∃ m, shapes P d f.type = some m := by
     have key : ∀ (l : List Field) (off : Nat) (s : List Sh), shapesFs P (shapes P d) off l = some s → ∀ f ∈ l, ∃ m, shapes P d f.type = some m := by
      intro l
      induction l with
      | nil => intro _ _ _ f hf; cases hf
      | cons g l ihl =>
       intro off s h f hf
       simp only [shapesFs] at h
       split at h
       ·rename_i m hm
        split at h
        ·simp only [Option.map_eq_some_iff] at h
         obtain ⟨s2, h2, _⟩ := h
         rcases List.mem_cons.1 hf with rfl | hf
         ·exact ⟨m, hm⟩
         ·exact ihl _ _ h2 f hf
        ·cases h
       ·cases h
     exact key fs.toList 0 l hl
    have m1 : fs.toList.mapM (fun f => DataW.trod enc P w 0 sp true n f.type ((cs.drop f.offset).take (P.cellsOf f.type))) = some xs :=
     mapM_some_of_get _ _ (by simp [hxs]) fun i f hif => by
      have h1 := hf i f (by simpa using hif)
      have hil : i < fs.size := by simpa using (List.getElem?_eq_some_iff.1 hif).1
      rw [List.getElem?_eq_getElem (by omega)] at h1 ⊢
      obtain ⟨m, hm⟩ := hsh2 f (List.mem_of_getElem? hif)
      exact ih n f.type _ _ m hm h1 fun p hp => hsp p (List.mem_flatMap.2 ⟨_, List.getElem_mem _, hp⟩)
    unfold DataW.trod
    rw [ht]
    have hne : ∀ y, (if cs.length = P.cellsOf t then (fs.toList.mapM fun f => DataW.trod enc P w 0 sp true n f.type ((cs.drop f.offset).take (P.cellsOf f.type))).map fun xs => (DataW.agg (xs.map (·.1)), xs.flatMap (·.2)) else none) = some y →
      (match some (TypeDesc.struct fs), cs with
       | some (.struct fs), cs => if cs.length = P.cellsOf t then (fs.toList.mapM fun f => DataW.trod enc P w 0 sp true n f.type ((cs.drop f.offset).take (P.cellsOf f.type))).map fun xs => (DataW.agg (xs.map (·.1)), xs.flatMap (·.2)) else none
       | _, _ => none) = some y := fun y h => h
    have := hne (.agg (xs.map (·.1)), xs.flatMap (·.2)) (by rw [if_pos hlen, m1]; rfl)
    revert this
    split <;> simp_all
   ·cases hsh
  ·rename_i k e ht
   split at hsh
   ·rename_i es hes
    have hx' : (if cs.length = P.cellsOf t then ((List.range k).mapM fun i => DataW.trod enc P w 0 (fun _ => true) true n e ((cs.drop (i * P.cellsOf e)).take (P.cellsOf e))).map fun xs => (DataW.agg (xs.map (·.1)), xs.flatMap (·.2)) else none) = some x := by
     unfold DataW.trod at hx
     rw [ht] at hx
     revert hx
     split <;> simp_all
    split at hx'
    ·rename_i hcl
     simp only [Option.map_eq_some_iff] at hx'
     obtain ⟨xs, hxs, rfl⟩ := hx'
     have m1 : (List.range k).mapM (fun i => DataW.trod enc P w 0 sp true n e ((cs.drop (i * P.cellsOf e)).take (P.cellsOf e))) = some xs :=
      mapM_carry hxs fun i y hi hy h => ih n e _ y es hes h fun p hp => hsp p (List.mem_flatMap.2 ⟨y, hy, hp⟩)
     have h2 : (if cs.length = P.cellsOf t then ((List.range k).mapM fun i => DataW.trod enc P w 0 sp true n e ((cs.drop (i * P.cellsOf e)).take (P.cellsOf e))).map fun xs => (DataW.agg (xs.map (·.1)), xs.flatMap (·.2)) else none) = some (DataW.agg (xs.map (·.1)), xs.flatMap (·.2)) := by
      rw [if_pos hcl, m1]; rfl
     unfold DataW.trod
     rw [ht]
     revert h2
     split <;> simp_all
    ·cases hx'
   ·cases hsh
  ·cases hsh
theorem Trod_behind {w' : World} {sp : Nat → Bool} {t : TypeId} {v : Value} {x : DataW H} {ps : List MemPlace} {d : Nat} {shs : List Sh} (hsh : shapes P d t = some shs) (h : DataW.Trod enc P w 0 (fun _ => true) true t v x ps)
  (hw : ∀ k, k < w.heap.size → w'.heap[k]? = w.heap[k]?) (hsp : ∀ p ∈ ps, sp p.block = true) : DataW.Trod enc P w' 0 sp true t v x ps := by
 obtain ⟨fuel, hx⟩ := h
 have h1 := trod_sp d fuel t _ (x, ps) shs hsh hx hsp
 refine ⟨fuel, DataW.trod_carry fuel t _ (x, ps) h1 fun p hp => ?_⟩
 have hlt := DataW.trod_lt fuel t _ (x, ps) hx p hp
 have := hw p.block hlt
 cases p with
 | cell b off => simp only [World.sameAt, World.cell?]; simp only [MemPlace.block] at this; rw [this]
 | map b => exact this
theorem TrodAll_behind {w' : World} {sp : Nat → Bool} {d : Nat} (hw : ∀ k, k < w.heap.size → w'.heap[k]? = w.heap[k]?) : ∀ {ts : List TypeId} {vs : List Value} {ds : List (DataW H)} {ps : List MemPlace}, (∀ t ∈ ts, ∃ shs, shapes P d t = some shs) → DataW.TrodAll enc P w 0 (fun _ => true) true ts vs ds ps →
  (∀ p ∈ ps, sp p.block = true) → DataW.TrodAll enc P w' 0 sp true ts vs ds ps := by
 intro ts
 induction ts with
 | nil =>
  intro vs ds ps _ h _
  obtain ⟨rfl, rfl, rfl⟩ := trodAll_nil h
  exact rfl
 | cons t ts ih =>
  intro vs ds ps hsh h hsp
  obtain ⟨v, vs', x, ds', p, q, rfl, rfl, rfl, h1, h2⟩ := trodAll_cons h
  obtain ⟨shs, hs⟩ := hsh t (by simp)
  exact ⟨p, q, Trod_behind hs h1 hw (fun y hy => hsp y (by simp [hy])), ih (fun u hu => hsh u (by simp [hu])) h2 (fun y hy => hsp y (by simp [hy])), rfl⟩
theorem keptBut_same {w' : World} (hos : w'.os = w.os) (hout : w'.output = w.output) (hw : ∀ k, k < w.heap.size → w'.heap[k]? = w.heap[k]?) (may : MemPlace → Prop) : w.keptBut w' may := by
 refine ⟨hos, hout, fun i hi => ?_⟩
 rw [hw i hi]
 split
 ·rename_i c t fr c' t' fr' h1 h2
  rw [h1] at h2
  cases h2
  exact ⟨rfl, rfl, rfl, fun _ _ => rfl⟩
 ·rename_i es clock es' clock' h1 h2
  rw [h1] at h2
  cases h2
  exact .inr ⟨rfl, rfl⟩
 ·rfl
theorem post_law {f : Func} {s : ChangeSpec} {apart fresh handsOn again : Bool} {W W' : World} {args : Array Value} {ds gs : List (DataW H)} {before : List MemPlace} {d tb : Nat}
  (hW : DataW.Whole enc P f.params.toList s.vars apart W args.toList ds gs before) (hvars : s.vars = []) (hr : f.resultTypes = #[tb]) (htb : P.underlying tb = some .bool)
  (hfn : s.fn H (ds ++ gs) = { results := [.lit (.bool true)], args := ds })
  (hsh : ∀ t ∈ f.params.toList, ∃ shs, shapes P d t = some shs) (hos : W'.os = W.os) (hout : W'.output = W.output) (hw : ∀ k, k < W.heap.size → W'.heap[k]? = W.heap[k]?) :
  s.post enc P f apart fresh handsOn again W args (.bool true) W' := by
 obtain ⟨p, q, hA, hV, hb, hz, hnd⟩ := hW
 rw [hvars] at hV
 have hV' := hV
 obtain ⟨rfl, rfl⟩ := trodVars_none hV
 have hbp : before = p := by simpa using hb
 subst hbp
 have hres : ∀ (b : Nat) (sp : Nat → Bool) (hd : Bool), DataW.TrodAll enc P W' b sp hd f.resultTypes.toList ((Value.bool true).resultList f.resultTypes.size) [.lit (.bool true)] [] := fun b sp hd => by
  rw [hr]
  exact trodAll_mk1 (Go.RowKit.shut_bool htb true)
 have hlt : ∀ p ∈ before, p.block < W.heap.size := DataW.TrodAll.lt hA
 have hargs : ∀ sp : Nat → Bool, (∀ p ∈ before, sp p.block = true) → DataW.TrodAll enc P W' 0 sp true f.params.toList args.toList ds before := fun sp hsp => TrodAll_behind hw hsh hA hsp
 refine ⟨ds, [], before, [], before, [], ⟨before, [], hA, by rw [hvars]; exact hV', by simp, hz, hnd⟩, ?_, ?_, ?_, keptBut_same hos hout hw _, fun _ => ⟨?_, [.lit (.bool true)] ++ ds, [], before, ⟨before, [], ?_, by rw [hvars]; rfl, by simp, ?_, ?_⟩, fun p hp _ => hp⟩⟩
 ·rw [hfn]; exact hres _ _ _
 ·rw [hfn]; exact hargs _ fun p hp => by simpa using hlt p hp
 ·rw [hvars, hfn]; rfl
 ·intro j t r hj hrr
  rw [hr] at hj hrr
  match j with
  | 0 =>
   simp [Value.resultList] at hj hrr
   subst hj hrr
   exact Go.RowKit.okWide_bool_mk htb true
  | j + 1 => simp at hj
 ·have := trodAll_append (hargs (fun _ => true) fun _ _ => rfl) (hres 0 (fun _ => true) true)
  simpa using this
 ·intro b off hp
  have h1 := hz b off hp
  have h2 := hw b (hlt _ hp)
  simp only [World.frozen?] at h1 ⊢
  rw [h2]; exact h1
 ·exact hnd
theorem law_calls {E : Env} (hm : P.follows .mixedOrders = true) (hE : ∀ B, EnvOk Fence.wide P B E) (hS : SumsKept E) {f : FuncId} (hf : f < yB) {args0 args' : List Value} {ρ : RM} {W : World} {st st' : St} (h : DR E f args0 ⟨st.h, st.h.length⟩ (.ret (.bool true)) st') (ha : LRel ρ args0 args') (hR : SRel W.heap.size ρ W st) :
  Calls P f args'.toArray W fun e W' => e = .returned (.bool true) ∧ W'.os = W.os ∧ W'.output = W.output ∧ ∀ k, k < W.heap.size → W'.heap[k]? = W.heap[k]? := by
 obtain ⟨m, h⟩ := h
 refine (calls_of_exec hm (hE W.heap.size) hS h hf rfl ha (hR.fl _)).mono fun e W' hp => ?_
 cases e with
 | returned v' =>
  obtain ⟨v, st2, ρ', ⟨h1, _⟩, h2, _, h4⟩ := hp
  obtain rfl := Out.ret.inj h1
  obtain rfl := h2.bool
  exact ⟨rfl, h4.os, h4.output, fun k hk => h4.below k hk⟩
 | panicked chain => obtain ⟨v, v', st2, ρ', ⟨h1, _⟩, _⟩ := hp; cases h1
 | outgrown => exact hp.elim
end
end Go.Ai
