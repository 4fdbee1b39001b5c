/- Regions that draw their order: one operation at a stage. -/
import Derived.Test.YtdbkhecnkhjhpaaAi26
namespace Go.Ai
open Go.RowKit
set_option linter.unusedSimpArgs false
set_option linter.unusedVariables false
variable {P : Program} {ρ ρ' : RM} {w w' : World} {D : List Deferred}

theorem WRel.congr {B : Nat} {H H' : Nat → O} (h : WRel B ρ w H) (he : ∀ id lo, ρ id = some lo → H id = H' id) : WRel B ρ w H' :=
  ⟨h.base, fun id l hl => he id l hl ▸ h.rel id l hl, fun id l hl hr => h.ro id l hl (by rw [he id l hl]; exact hr), fun id l hl hr => h.own id l hl (by rw [he id l hl]; exact hr),
   fun i j li lj hij hi hj hb hB => (he i li hi).symm.trans (h.sep i j li lj hij hi hj hb hB)⟩

theorem fpOf_bad {r : ROp} {e : Operand → Value} {st : St} : (fpOf r e st).bad = false ∧ (fpOf r e st).all = false := by
  cases r <;> exact ⟨rfl, rfl⟩

theorem iterMap_sub {h : List O} {l : List Nat} {b : Nat} (hb : b ∈ l) : b ∈ iterMap h l := by
  unfold iterMap
  split
  · split
    · simp at hb; simp [hb]
    · exact hb
  · exact hb

theorem fp_cover {r : ROp} {e : Operand → Value} {st : St} (hc : ∀ f a, r ≠ .call f a) : ∀ x ∈ fpOps r, ∀ b ∈ blk (e x), b ∈ (fpOf r e st).r ∨ b ∈ (fpOf r e st).w := by
  intro x hx b hb
  cases r <;> simp [fpOps] at hx
  case call f a => exact absurd rfl (hc f a)
  case next it => subst hx; exact .inr hb
  case entry it => subst hx; exact .inl (iterMap_sub hb)
  all_goals first
    | (subst hx; first | exact .inl hb | exact .inr hb)
    | (rcases hx with rfl | rfl <;> first | exact .inl hb | exact .inr hb)

section
variable {nt : Nat} {ops : Array Oper} {l : List ROper} {call : CallF} {frs : Nat → Fr} {sts : Nat → St} {fps : Nat → FP} {vs : Nat → Value}
variable {B : Nat} {ρ0 : RM} {w0 : World} {S : Nat → Prop} {a : Act} {H : Nat → O} {i : Nat}

/-- What is known when an operation is taken. -/
structure Taken (ops : Array Oper) (S : Nat → Prop) (i : Nat) : Prop where
  lt : i < ops.size
  no : ¬ S i
  up : ∀ j, anc ops i j → S j
  down : ∀ x y, S x → anc ops x y → S y

theorem Reg.slotCut (G : Reg P nt ops l call frs sts fps vs) (T : Taken ops S i) {o : Oper} {t : Nat} (ho : ops[i]? = some o) (ht : t ∈ Ai.slots ops o) : ∀ (k : Nat) r, l[k]? = some r → r.dst = some t → (S k ↔ k < i) := by
  intro k r hk hd
  have hklt : k < ops.size := by rw [← G.len]; exact (List.getElem?_eq_some_iff.1 hk).1
  obtain ⟨r', hr', hco, _⟩ := G.step hklt
  obtain rfl : r = r' := Option.some.inj (hk.symm.trans hr')
  obtain ⟨ok, hok, _, hdst, _⟩ := coper_spec hco
  rw [hdst] at hd
  constructor
  · intro hS
    refine Classical.byContradiction fun hn => ?_
    by_cases hki : k = i
    · exact T.no (hki ▸ hS)
    · exact T.no (T.down k i hS (G.slotAnc (t := t) (by omega) ho hok (.inr ⟨hd, ht⟩)))
  · intro hlt
    exact T.up k (G.slotAnc (t := t) hlt hok ho (.inl ⟨hd, ht⟩))

theorem Reg.blkCut (G : Reg P nt ops l call frs sts fps vs) (T : Taken ops S i) {b : Nat} (hb : b ∈ (fps i).r ∨ b ∈ (fps i).w) : ∀ k, k < ops.size → b < (sts k).h.length → (b ∈ (fps k).w ∨ (fps k).bad = true) → (S k ↔ k < i) := by
  intro k hk _ hw
  constructor
  · intro hS
    refine Classical.byContradiction fun hn => ?_
    by_cases hki : k = i
    · exact T.no (hki ▸ hS)
    · refine T.no (T.down k i hS (Classical.byContradiction fun hna => ?_))
      have := G.clash (by omega) hk hna
      rw [(clash_rw hb hw).1] at this
      cases this
  · intro hlt
    refine T.up k (Classical.byContradiction fun hna => ?_)
    have := G.clash hlt T.lt hna
    rw [(clash_rw hb hw).2] at this
    cases this

theorem Reg.callCut (G : Reg P nt ops l call frs sts fps vs) (T : Taken ops S i) (hall : (fps i).all = true) {k : Nat} (hk : k < ops.size) (hw : (∃ b, b ∈ (fps k).w) ∨ (fps k).bad = true ∨ ((fps k).al = true ∧ (fps i).bad = true)) (hki : k ≠ i) : (S k ↔ k < i) := by
  have hcl : (fps i).clash (fps k) = true ∧ (fps k).clash (fps i) = true := by
    have ht : (fps i).touches = true := by simp [FP.touches, hall]
    have : (fps i).hits (fps k) = true ∨ (fps k).hits (fps i) = true := by
      rcases hw with ⟨b, hb⟩ | hb | ⟨hb, hb2⟩
      · left
        have : (fps k).w.isEmpty = false := by cases hw : (fps k).w with | nil => rw [hw] at hb; cases hb | cons _ _ => rfl
        simp [FP.hits, hall, this]
      · right; simp [FP.hits, hb, ht]
      · left; simp [FP.hits, hb2, hb]
    unfold FP.clash
    rcases this with h | h <;> simp [h]
  constructor
  · intro hS
    refine Classical.byContradiction fun hn => ?_
    refine T.no (T.down k i hS (Classical.byContradiction fun hna => ?_))
    have := G.clash (by omega) hk hna
    rw [hcl.1] at this
    cases this
  · intro hlt
    refine T.up k (Classical.byContradiction fun hna => ?_)
    have := G.clash hlt T.lt hna
    rw [hcl.2] at this
    cases this

/-- What an operation would make is not known yet. -/
theorem Stage.fresh (G : Reg P nt ops l call frs sts fps vs) (T : Taken ops S i) (hf0 : Full ρ0 (sts 0).h) (hst : Stage D B nt ops l frs sts fps ρ0 w0 S a w ρ H) {id : Nat} (h1 : (sts i).h.length ≤ id) (h2 : id < (sts (i + 1)).h.length) : ρ id = none := by
  have hi := T.lt
  cases hx : ρ id with
  | none => rfl
  | some lo =>
    exfalso
    rcases hst.dom id lo hx with ⟨lo0, h0⟩ | ⟨k, hk, hS, h3, h4⟩
    · have := hf0 id lo0 h0
      have := (G.mono (i := 0) (j := i) (by omega) (by omega)).len
      omega
    · have hki : k ≠ i := fun e => T.no (e ▸ hS)
      rcases Nat.lt_or_gt_of_ne hki with h | h
      · have := (G.mono (i := k + 1) (j := i) (by omega) (by omega)).len
        omega
      · have := (G.mono (i := i + 1) (j := k) (by omega) (by omega)).len
        omega

/-- The operands. -/
theorem Stage.given (G : Reg P nt ops l call frs sts fps vs) (T : Taken ops S i) (hst : Stage D B nt ops l frs sts fps ρ0 w0 S a w ρ H) {o : Oper} {r : ROp} (ho : ops[i]? = some o) (hc : cop P o = some r) : Given ρ o.op (ev (frs i)) a.eval := by
  refine ⟨fun x hx => ?_, fun _ => rfl, fun _ => rfl⟩
  have hok := cop_okO hc x hx
  cases x with
  | tmp t =>
    have ht : t ∈ slots ops o := by
      unfold slots
      refine List.mem_append.2 (.inl (List.mem_append.2 (.inr (List.mem_filterMap.2 ⟨.tmp t, by simpa using hx, rfl⟩))))
    exact hst.slot t i (Nat.le_of_lt T.lt) (G.slotCut T ho ht)
  | const v => exact plain_rel hok
  | global g => simp [okO] at hok
  | func f => exact .func (xs := []) (ys := []) rfl fun i a b h => by simp at h

end
end Go.Ai
