/- Regions that draw their order: the stages. -/
import Derived.Test.YtdbkhecnkhjhpaaAi24
namespace Go.Ai
open Go.RowKit
set_option linter.unusedSimpArgs false
set_option linter.unusedVariables false
variable {P : Program} {ρ ρ' : RM} {w w' : World}

theorem mapM_range {α : Type} {f : Nat → Option α} {m : Nat} {l : List α} (h : (List.range m).mapM f = some l) : l.length = m ∧ ∀ k, k < m → ∃ r, l[k]? = some r ∧ f k = some r := by
  have key : ∀ (is : List Nat) (l : List α), is.mapM f = some l → l.length = is.length ∧ ∀ (k i : Nat), is[k]? = some i → ∃ r, l[k]? = some r ∧ f i = some r := by
    intro is
    induction is with
    | nil => intro l h; simp at h; subst h; exact ⟨rfl, fun k i h => by simp at h⟩
    | cons i is ih =>
      intro l h
      simp only [List.mapM_cons, bind, Option.bind_eq_some_iff, pure, Option.some.injEq] at h
      obtain ⟨r, hr, l', hl', rfl⟩ := h
      obtain ⟨h1, h2⟩ := ih l' hl'
      refine ⟨by simp [h1], fun k j hk => ?_⟩
      cases k with
      | zero => simp at hk; subst hk; exact ⟨r, rfl, hr⟩
      | succ k => exact h2 k j (by simpa using hk)
  obtain ⟨h1, h2⟩ := key _ _ h
  exact ⟨by simpa using h1, fun k hk => h2 k k (by simp [hk])⟩

/-- All that is fixed about a region. -/
structure Reg (P : Program) (nt : Nat) (ops : Array Oper) (l : List ROper) (call : CallF) (frs : Nat → Fr) (sts : Nat → St) (fps : Nat → FP) (vs : Nat → Value) : Prop where
  len : l.length = ops.size
  at_ : ∀ k, k < ops.size → ∃ r, l[k]? = some r ∧ coper P nt ops (Region.before ops) true k = some r
  slots : slotsOk ops (Region.before ops) = true
  edges : edgesOk ops = true
  tr : Trace call l 0 frs sts fps vs
  kept : CallKept call

abbrev anc (ops : Array Oper) (i j : Nat) : Prop := ((Region.before ops).getD i 0).testBit j = true

section
variable {nt : Nat} {ops : Array Oper} {l : List ROper} {call : CallF} {frs : Nat → Fr} {sts : Nat → St} {fps : Nat → FP} {vs : Nat → Value}

theorem Reg.of {fr fr' : Fr} {st st' : St} {e : Ex} (hl : cops P nt ops true = some l) (hr : runOpsD call 0 [] l fr st = some (e, fr', st')) (hk : CallKept call) :
    ∃ frs sts fps vs, Reg P nt ops l call frs sts fps vs ∧ frs 0 = fr ∧ sts 0 = st ∧ frs ops.size = fr' ∧ sts ops.size = st' := by
  unfold cops at hl
  simp only [if_true, bind, Option.bind_eq_some_iff] at hl
  obtain ⟨_, hg, hmap⟩ := hl
  have hs : slotsOk ops (Region.before ops) = true ∧ edgesOk ops = true := by
    unfold guardB at hg
    split at hg
    · rename_i h; simpa using h
    · cases hg
  obtain ⟨h1, h2⟩ := mapM_range hmap
  obtain ⟨frs, sts, fps, vs, htr, a, b, c, d, _⟩ := trace_of _ _ _ _ _ _ _ _ hr
  exact ⟨frs, sts, fps, vs, ⟨h1, h2, hs.1, hs.2, htr, hk⟩, a, b, h1 ▸ c, h1 ▸ d⟩

theorem Reg.step (G : Reg P nt ops l call frs sts fps vs) {k : Nat} (hk : k < ops.size) : ∃ r, l[k]? = some r ∧ coper P nt ops (Region.before ops) true k = some r ∧ TStep call r (frs k) (sts k) (vs k) (frs (k + 1)) (sts (k + 1)) (fps k) := by
  obtain ⟨r, h1, h2⟩ := G.at_ k hk
  exact ⟨r, h1, h2, G.tr.step k r h1⟩

theorem tstep_kept (hc : CallKept call) {r : ROper} {fr fr1 : Fr} {st st1 : St} {v : Value} {fp : FP} (h : TStep call r fr st v fr1 st1 fp) :
    Kept st st1 ∧ (∀ id, id < st.h.length → id ∉ fp.w → fp.bad = false → st1.h[id]? = st.h[id]?) ∧ (fp.al = (st1.h.length != st.h.length)) := by
  rcases h.act with ⟨_, _, rfl, rfl⟩ | ⟨_, hop⟩
  · exact ⟨Kept.refl _, fun _ _ _ _ => rfl, by simp⟩
  · refine ⟨opD_kept hc hop, ?_⟩
    unfold opD at hop
    split at hop
    · split at hop
      · rename_i st2 h1
        simp only [Option.some.injEq, Prod.mk.injEq] at hop
        obtain ⟨_, rfl, rfl⟩ := hop
        have hk := doCall_kept hc h1
        refine ⟨fun id hid _ hb => hk.same id hid ?_, rfl⟩
        simp only [decide_eq_false_iff_not, Nat.not_lt] at hb
        exact Nat.lt_of_lt_of_le hid hb
      · cases hop
    · split at hop
      · rename_i h1
        simp only [Option.some.injEq, Prod.mk.injEq] at hop
        obtain ⟨_, rfl, rfl⟩ := hop
        exact ⟨fun id hid hn _ => (step_kept h1).same id hid hn, rfl⟩
      · cases hop

theorem Reg.keptAt (G : Reg P nt ops l call frs sts fps vs) {k : Nat} (hk : k < ops.size) : Kept (sts k) (sts (k + 1)) ∧ (∀ id, id < (sts k).h.length → id ∉ (fps k).w → (fps k).bad = false → (sts (k + 1)).h[id]? = (sts k).h[id]?) ∧ ((fps k).al = ((sts (k + 1)).h.length != (sts k).h.length)) := by
  obtain ⟨r, _, _, ht⟩ := G.step hk
  exact tstep_kept G.kept ht

theorem Reg.mono (G : Reg P nt ops l call frs sts fps vs) {i j : Nat} (hij : i ≤ j) (hj : j ≤ ops.size) : Kept (sts i) (sts j) := by
  induction j with
  | zero =>
    obtain rfl : i = 0 := by omega
    exact Kept.refl _
  | succ j ih =>
    by_cases h : i = j + 1
    · subst h; exact Kept.refl _
    · exact (ih (by omega) (by omega)).trans (G.keptAt (by omega)).1

/-- A block that nothing writes in between. -/
theorem Reg.stable (G : Reg P nt ops l call frs sts fps vs) {i j id : Nat} (hij : i ≤ j) (hj : j ≤ ops.size) (hid : id < (sts i).h.length) (hn : ∀ k, i ≤ k → k < j → id ∉ (fps k).w ∧ (fps k).bad = false) : hp (sts j).h id = hp (sts i).h id := by
  induction j with
  | zero =>
    obtain rfl : i = 0 := by omega
    rfl
  | succ j ih =>
    by_cases h : i = j + 1
    · subst h; rfl
    · have h1 := ih (by omega) (by omega) (fun k a b => hn k a (by omega))
      obtain ⟨q1, q2⟩ := hn j (by omega) (by omega)
      have hlt : id < (sts j).h.length := Nat.lt_of_lt_of_le hid (G.mono (by omega) (by omega)).len
      have := (G.keptAt (k := j) (by omega)).2.1 id hlt q1 q2
      rw [← h1]
      simp [hp, List.getD, this]

/-- A slot that nothing writes in between. -/
theorem Reg.slotStable (G : Reg P nt ops l call frs sts fps vs) {i j t : Nat} (hij : i ≤ j) (hj : j ≤ ops.size) (hn : ∀ k r, i ≤ k → k < j → l[k]? = some r → r.dst ≠ some t) : get (frs j) t = get (frs i) t := by
  induction j with
  | zero =>
    obtain rfl : i = 0 := by omega
    rfl
  | succ j ih =>
    by_cases h : i = j + 1
    · subst h; rfl
    · have h1 := ih (by omega) (by omega) (fun k r a b => hn k r a (by omega))
      obtain ⟨r, hr, _, ht⟩ := G.step (k := j) (by omega)
      have hd := hn j r (by omega) (by omega) hr
      rw [ht.put, ← h1]
      cases hdst : r.dst with
      | none => rfl
      | some d =>
        show get (put (frs j) d (vs j)) t = _
        rw [get_put, if_neg (fun e => hd (by rw [hdst, e]))]

theorem Reg.clash (G : Reg P nt ops l call frs sts fps vs) {j k : Nat} (hjk : j < k) (hk : k < ops.size) (hn : ¬ anc ops k j) : (fps j).clash (fps k) = false := by
  obtain ⟨r, hr, hco, _⟩ := G.step hk
  refine G.tr.clash j k r hjk hr ?_
  obtain ⟨_, _, _, _, _, _, ha⟩ := coper_spec hco
  rw [ha, Nat.zero_add]
  simpa using hn

/-- The slot that an operation names and another writes: the elder is an ancestor. -/
theorem Reg.slotAnc (G : Reg P nt ops l call frs sts fps vs) {i j t : Nat} {x y : Oper} (hij : i < j) (hx : ops[i]? = some x) (hy : ops[j]? = some y) (h : (x.dst = some t ∧ t ∈ Ai.slots ops y) ∨ (y.dst = some t ∧ t ∈ Ai.slots ops x)) : anc ops j i := by
  have hs := G.slots
  unfold slotsOk at hs
  have hj : j < ops.size := (Array.getElem?_eq_some_iff.1 hy).1
  have := List.all_eq_true.1 (List.all_eq_true.1 hs j (List.mem_range.2 hj)) i (List.mem_range.2 hij)
  rw [hx, hy] at this
  simp only [Bool.or_eq_true, Bool.and_eq_true] at this
  rcases this with h1 | ⟨h1, h2⟩
  · exact h1
  · exfalso
    rcases h with ⟨q1, q2⟩ | ⟨q1, q2⟩
    · rw [q1] at h1; simp at h1; exact h1 q2
    · rw [q1] at h2; simp at h2; exact h2 q2

end
end Go.Ai
