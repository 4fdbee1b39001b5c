/- Memory as a whole; what a run does to it. -/
import Derived.Test.YtdbkhecnkhjhpaaAi15
namespace Go.Ai
open Go.RowKit
set_option linter.unusedSimpArgs false
set_option linter.unusedVariables false
variable {P : Program} {ρ ρ' : RM} {w w' : World}

/-- Memory as a function. -/
def hp (h : List O) : Nat → O := fun id => h.getD id .dead
theorem hp_some {h : List O} {id : Nat} {o : O} (ho : h[id]? = some o) : hp h id = o := by simp [hp, List.getD, ho]
theorem hp_none {h : List O} {id : Nat} (ho : h.length ≤ id) : hp h id = .dead := by simp [hp, List.getD, List.getElem?_eq_none ho]
theorem hp_lt {h : List O} {id : Nat} (hid : id < h.length) : h[id]? = some (hp h id) := by simp [hp, List.getD, hid]

/-- The machine's memory is what the abstract run holds it for. Below 'B' lies what was there before the call. -/
structure WRel (B : Nat) (ρ : RM) (w : World) (H : Nat → O) : Prop where
  base : B ≤ w.heap.size
  rel : ∀ id l, ρ id = some l → CRel ρ w l (H id)
  ro : ∀ id l, ρ id = some l → (H id).ro = true → l.b < B
  own : ∀ id l, ρ id = some l → (H id).ro = false → B ≤ l.b ∧ l.b < w.heap.size
  sep : ∀ (i j : Nat) li lj, i < j → ρ i = some li → ρ j = some lj → li.b = lj.b → B ≤ li.b → H i = .dead

theorem live_of_own {o : O} (h : o.own = true) : o ≠ .dead := by intro e; subst e; simp [O.own] at h

def touched (h h' : List O) (ws : List Nat) (H : Nat → O) : Nat → O := fun id => if id ∈ ws ∨ (h.length ≤ id ∧ id < h'.length) then hp h' id else H id

theorem WRel.step {B : Nat} {H : Nat → O} {h h' : List O} {ws : List Nat} (hW : WRel B ρ w H) (he : Eff ρ ρ' w w' h h' ws) (hws : ∀ k ∈ ws, ∃ o, h[k]? = some o ∧ o.own = true) (hH : ∀ k ∈ ws, H k = hp h k) (hk : ∀ k ∈ ws, ∃ l, ρ k = some l)
    (hlen : h'.length ≤ h.length + 1) (hnew : ∀ id, h.length ≤ id → ∀ o, h'[id]? = some o → o.own = true) (hro : RoKept h h') :
    WRel B ρ' w' (touched h h' ws H) := by
  have hlt : ∀ k ∈ ws, k < h.length := fun k hk => (List.getElem?_eq_some_iff.1 (hws k hk).choose_spec.1).1
  have hHo : ∀ k ∈ ws, (H k).own = true := fun k hk => by
    obtain ⟨o, ho, hown⟩ := hws k hk
    rw [hH k hk, hp_some ho]; exact hown
  -- an id of old that was not touched
  have hold : ∀ id l, ρ' id = some l → ¬ (id ∈ ws ∨ (h.length ≤ id ∧ id < h'.length)) → ρ id = some l := fun id l hl hn => by
    rcases he.dom id l hl with h1 | h1
    · exact h1
    · exact absurd (Or.inr h1) hn
  have hwl : ∀ id l, id ∈ ws → ρ' id = some l → ρ id = some l := fun id l hid hl => by
    rcases he.dom id l hl with h1 | h1
    · exact h1
    · have := hlt id hid; omega
  have hnewl : ∀ id l, h.length ≤ id → id < h'.length → ρ' id = some l → ∃ o, h'[id]? = some o ∧ CRel ρ' w' l o ∧ (w.heap.size ≤ l.b ∨ ∃ k ∈ ws, ∃ lk, ρ k = some lk ∧ lk.b = l.b ∧ h'[k]? = some .dead) := fun id l h1 h2 hl => by
    obtain ⟨l', o, k1, k2, k3, k4⟩ := he.new id h1 h2
    obtain rfl : l = l' := Option.some.inj (hl.symm.trans k1)
    exact ⟨o, k2, k3, k4⟩
  have hnewB : ∀ id l, h.length ≤ id → id < h'.length → ρ' id = some l → B ≤ l.b ∧ l.b < w'.heap.size := fun id l h1 h2 hl => by
    obtain ⟨o, k2, k3, k4⟩ := hnewl id l h1 h2 hl
    have hown := hnew id h1 o k2
    refine ⟨?_, k3.lt ?_⟩
    · rcases k4 with k4 | ⟨k, hk, lk, q1, q2, q3⟩
      · exact Nat.le_trans hW.base k4
      · rw [← q2]; exact (hW.own k lk q1 (O.ro_of_own (hHo k hk))).1
    · cases o with
      | dead => simp [O.own] at hown
      | _ => rfl
  refine ⟨Nat.le_trans hW.base he.size, ?_, ?_, ?_, ?_⟩
  · intro id l hl
    unfold touched
    split
    · rename_i ht
      rcases ht with ht | ht
      · have hl0 := hwl id l ht hl
        exact he.old id ht l _ hl0 (hp_lt (Nat.lt_of_lt_of_le (hlt id ht) he.len))
      · obtain ⟨o, k2, k3, _⟩ := hnewl id l ht.1 ht.2 hl
        rw [hp_some k2]; exact k3
    · rename_i ht
      have hl0 := hold id l hl ht
      have hc := hW.rel id l hl0
      by_cases hd : H id = .dead
      · rw [hd]; trivial
      refine (hc.same ?_).mono he.le
      have hne : ∀ k ∈ ws, ∀ lk, ρ k = some lk → lk.b ≠ l.b := fun k hk lk hlk e => by
        have hkB := hW.own k lk hlk (O.ro_of_own (hHo k hk))
        have hik : id ≠ k := fun e => ht (.inl (e ▸ hk))
        rcases Nat.lt_or_gt_of_ne hik with h1 | h1
        · exact hd (hW.sep id k l lk h1 hl0 hlk e.symm (e ▸ hkB.1))
        · exact live_of_own (hHo k hk) (hW.sep k id lk l h1 hlk hl0 e hkB.1)
      by_cases hr : (H id).ro = true
      · exact he.keep l.b (Nat.lt_of_lt_of_le (hW.ro id l hl0 hr) hW.base) hne
      · exact he.keep l.b (hW.own id l hl0 (by simpa using hr)).2 hne
  · intro id l hl hr
    unfold touched at hr
    split at hr
    · rename_i ht
      exfalso
      rcases ht with ht | ht
      · have hx := hp_lt (Nat.lt_of_lt_of_le (hlt id ht) he.len)
        have := hro id _ hx hr
        obtain ⟨o, ho, hown⟩ := hws id ht
        rw [ho] at this
        obtain rfl := Option.some.inj this
        rw [O.ro_of_own hown] at hr; cases hr
      · have := hnew id ht.1 _ (hp_lt ht.2)
        rw [O.ro_of_own this] at hr; cases hr
    · rename_i ht
      exact hW.ro id l (hold id l hl ht) hr
  · intro id l hl hr
    unfold touched at hr
    split at hr
    · rename_i ht
      rcases ht with ht | ht
      · have := hW.own id l (hwl id l ht hl) (O.ro_of_own (hHo id ht))
        exact ⟨this.1, Nat.lt_of_lt_of_le this.2 he.size⟩
      · exact hnewB id l ht.1 ht.2 hl
    · rename_i ht
      have := hW.own id l (hold id l hl ht) hr
      exact ⟨this.1, Nat.lt_of_lt_of_le this.2 he.size⟩
  · intro i j li lj hij hli hlj hb hB
    -- whether they are of old
    have cls : ∀ id l, ρ' id = some l → ρ id = some l ∨ (h.length ≤ id ∧ id < h'.length) := fun id l hl => he.dom id l hl
    have hnn : ∀ id l, ρ' id = some l → (h.length ≤ id ∧ id < h'.length) → id = h.length := fun id l _ hx => by omega
    have deadOld : ∀ id, H id = .dead → ¬ (h.length ≤ id ∧ id < h'.length) → touched h h' ws H id = .dead := fun id hd hn => by
      unfold touched
      split
      · rename_i ht
        rcases ht with ht | ht
        · exact absurd hd (live_of_own (hHo id ht))
        · exact absurd ht hn
      · exact hd
    have hnoti : ¬ (h.length ≤ i ∧ i < h'.length) := fun hx => by
      have := hnn i li hli hx
      subst this
      rcases cls j lj hlj with h1 | h1
      · -- an id of old that is greater than the new one: it is in the range only if it is new
        exfalso
        obtain ⟨o, k2, k3, k4⟩ := hnewl _ li hx.1 hx.2 hli
        have hjlt : lj.b < w.heap.size := by
          by_cases hr : (H j).ro = true
          · exact Nat.lt_of_lt_of_le (hW.ro j lj h1 hr) hW.base
          · exact (hW.own j lj h1 (by simpa using hr)).2
        rcases k4 with k4 | ⟨k, hk, lk, q1, q2, q3⟩
        · omega
        · exact live_of_own (hHo k hk) (hW.sep k j lk lj (Nat.lt_trans (hlt k hk) hij) q1 h1 (by rw [q2, hb]) (by rw [q2]; exact hB))
      · omega
    have hli0 : ρ i = some li := by
      rcases cls i li hli with h1 | h1
      · exact h1
      · exact absurd h1 hnoti
    rcases cls j lj hlj with h1 | h1
    · exact deadOld i (hW.sep i j li lj hij hli0 h1 hb hB) hnoti
    · obtain ⟨o, k2, k3, k4⟩ := hnewl j lj h1.1 h1.2 hlj
      rcases k4 with k4 | ⟨k, hk, lk, q1, q2, q3⟩
      · exfalso
        have : li.b < w.heap.size := by
          by_cases hr : (H i).ro = true
          · exact Nat.lt_of_lt_of_le (hW.ro i li hli0 hr) hW.base
          · exact (hW.own i li hli0 (by simpa using hr)).2
        omega
      · by_cases hik : i = k
        · subst hik
          unfold touched
          rw [if_pos (.inl hk), hp_some q3]
        · rcases Nat.lt_or_gt_of_ne hik with h2 | h2
          · exact deadOld i (hW.sep i k li lk h2 hli0 q1 (by rw [hb, q2]) hB) hnoti
          · exact absurd (hW.sep k i lk li h2 q1 hli0 (by rw [hb, q2]) (by rw [q2, ← hb]; exact hB)) (live_of_own (hHo k hk))

theorem touched_hp {h h' : List O} {ws : List Nat} (he : Eff ρ ρ' w w' h h' ws) (hws : ∀ k ∈ ws, ∃ o, h[k]? = some o ∧ o.own = true) : touched h h' ws (hp h) = hp h' := by
  funext id
  unfold touched
  split
  · rfl
  · rename_i hn
    simp only [not_or, not_and, Nat.not_lt] at hn
    by_cases hid : id < h.length
    · have := he.same id hid hn.1
      simp [hp, List.getD, this]
    · rw [hp_none (Nat.not_lt.1 hid), hp_none (hn.2 (Nat.not_lt.1 hid))]

/-- What a run has done. -/
structure RanW (B : Nat) (ρ ρ' : RM) (w w' : World) (st st' : St) : Prop where
  le : ρ.le ρ'
  os : w'.os = w.os
  tape : w'.tape = w.tape
  output : w'.output = w.output
  size : w.heap.size ≤ w'.heap.size
  below : ∀ k, k < B → w'.heap[k]? = w.heap[k]?
  keep : ∀ k, k < w.heap.size → (∀ id l, ρ id = some l → l.b = k → id < st'.fl) → w'.heap[k]? = w.heap[k]?
  fl : st'.fl ≤ st.fl
  len : st.h.length ≤ st'.h.length
  place : ∀ id l, ρ' id = some l → ρ id = none → id < st'.h.length ∧ (w.heap.size ≤ l.b ∨ ∃ k lk, ρ k = some lk ∧ lk.b = l.b ∧ st'.fl ≤ k)

theorem RanW.refl (B : Nat) (ρ : RM) (w : World) (st : St) : RanW B ρ ρ w w st st :=
  ⟨RM.le_refl ρ, rfl, rfl, rfl, Nat.le_refl _, fun _ _ => rfl, fun _ _ _ => rfl, Nat.le_refl _, Nat.le_refl _, fun id l h k => by rw [h] at k; cases k⟩

theorem RanW.trans {B : Nat} {ρ₀ ρ₁ ρ₂ : RM} {w₀ w₁ w₂ : World} {s₀ s₁ s₂ : St} (h : RanW B ρ₀ ρ₁ w₀ w₁ s₀ s₁) (k : RanW B ρ₁ ρ₂ w₁ w₂ s₁ s₂) : RanW B ρ₀ ρ₂ w₀ w₂ s₀ s₂ := by
  refine ⟨RM.le_trans h.le k.le, k.os.trans h.os, k.tape.trans h.tape, k.output.trans h.output, Nat.le_trans h.size k.size, fun i hi => (k.below i hi).trans (h.below i hi), ?_, Nat.le_trans k.fl h.fl, Nat.le_trans h.len k.len, ?_⟩
  · intro b hb hid
    rw [k.keep b (Nat.lt_of_lt_of_le hb h.size) ?_, h.keep b hb fun id l a c => Nat.lt_of_lt_of_le (hid id l a c) k.fl]
    intro id l hl hlb
    cases h0 : ρ₀ id with
    | some l0 =>
      have := h.le id l0 h0
      obtain rfl : l = l0 := Option.some.inj (hl.symm.trans this)
      exact hid id l h0 hlb
    | none =>
      obtain ⟨_, h1 | ⟨i, li, q1, q2, q3⟩⟩ := h.place id l hl h0
      · omega
      · have := hid i li q1 (q2.trans hlb)
        have := k.fl
        omega
  · intro id l hl h0
    cases h1 : ρ₁ id with
    | some l1 =>
      obtain rfl : l = l1 := Option.some.inj (hl.symm.trans (k.le id l1 h1))
      obtain ⟨b, c⟩ := h.place id l h1 h0
      refine ⟨Nat.lt_of_lt_of_le b k.len, ?_⟩
      rcases c with c | ⟨i, li, q1, q2, q3⟩
      · exact .inl c
      · exact .inr ⟨i, li, q1, q2, Nat.le_trans k.fl q3⟩
    | none =>
      obtain ⟨b, c⟩ := k.place id l hl h1
      refine ⟨b, ?_⟩
      rcases c with c | ⟨i, li, q1, q2, q3⟩
      · exact .inl (Nat.le_trans h.size c)
      · cases h2 : ρ₀ i with
        | some li0 =>
          obtain rfl : li = li0 := Option.some.inj (q1.symm.trans (h.le i li0 h2))
          exact .inr ⟨i, li, h2, q2, q3⟩
        | none =>
          obtain ⟨_, d⟩ := h.place i li q1 h2
          rcases d with d | ⟨j, lj, r1, r2, r3⟩
          · exact .inl (q2 ▸ d)
          · exact .inr ⟨j, lj, r1, r2.trans q2, Nat.le_trans k.fl r3⟩

theorem RanW.of_step {B : Nat} {H : Nat → O} {st st' : St} {ws : List Nat} (hW : WRel B ρ w H) (he : Eff ρ ρ' w w' st.h st'.h ws) (hown : ∀ k ∈ ws, (H k).own = true) (hfl : ∀ k ∈ ws, st'.fl ≤ k) (hle : st'.fl ≤ st.fl) : RanW B ρ ρ' w w' st st' := by
  refine ⟨he.le, he.os, he.tape, he.output, he.size, ?_, ?_, hle, he.len, ?_⟩
  · intro k hk
    refine he.keep k (Nat.lt_of_lt_of_le hk hW.base) fun id hid l hl e => ?_
    have := (hW.own id l hl (O.ro_of_own (hown id hid))).1
    omega
  · intro k hk hid
    refine he.keep k hk fun id hi l hl e => ?_
    have := hid id l hl e
    have := hfl id hi
    omega
  · intro id l hl h0
    rcases he.dom id l hl with h1 | h1
    · rw [h0] at h1; cases h1
    · refine ⟨h1.2, ?_⟩
      obtain ⟨l', o, k1, k2, k3, k4⟩ := he.new id h1.1 h1.2
      obtain rfl : l = l' := Option.some.inj (hl.symm.trans k1)
      rcases k4 with k4 | ⟨k, hk, lk, q1, q2, q3⟩
      · exact .inl k4
      · exact .inr ⟨k, lk, q1, q2, hfl k hk⟩

theorem RanW.weaken {B : Nat} {s₀ s₁ s : St} (h : RanW B ρ ρ' w w' s₀ s₁) (h1 : s.fl ≤ s₁.fl) (h2 : s₁.h.length ≤ s.h.length) : RanW B ρ ρ' w w' s s :=
  ⟨h.le, h.os, h.tape, h.output, h.size, h.below, fun k hk hid => h.keep k hk fun id l a b => Nat.lt_of_lt_of_le (hid id l a b) h1, Nat.le_refl _, Nat.le_refl _, fun id l a b => by
    obtain ⟨c, d⟩ := h.place id l a b
    refine ⟨Nat.lt_of_lt_of_le c h2, ?_⟩
    rcases d with d | ⟨k, lk, q1, q2, q3⟩
    · exact .inl d
    · exact .inr ⟨k, lk, q1, q2, Nat.le_trans h1 q3⟩⟩

/-- What a run has done; and what it has made is new. -/
structure Ran (B : Nat) (ρ ρ' : RM) (w w' : World) (st st' : St) : Prop extends RanW B ρ ρ' w w' st st' where
  fresh : ∀ id l, ρ' id = some l → ρ id = none → st.h.length ≤ id

theorem Ran.refl (B : Nat) (ρ : RM) (w : World) (st : St) : Ran B ρ ρ w w st st := ⟨RanW.refl B ρ w st, fun id l h k => by rw [h] at k; cases k⟩
theorem Ran.trans {B : Nat} {ρ₀ ρ₁ ρ₂ : RM} {w₀ w₁ w₂ : World} {s₀ s₁ s₂ : St} (h : Ran B ρ₀ ρ₁ w₀ w₁ s₀ s₁) (k : Ran B ρ₁ ρ₂ w₁ w₂ s₁ s₂) : Ran B ρ₀ ρ₂ w₀ w₂ s₀ s₂ := by
  refine ⟨h.toRanW.trans k.toRanW, fun id l a b => ?_⟩
  cases h1 : ρ₁ id with
  | none => exact Nat.le_trans h.len (k.fresh id l a h1)
  | some l1 => exact h.fresh id l1 h1 b
theorem Ran.of_step {B : Nat} {H : Nat → O} {st st' : St} {ws : List Nat} (hW : WRel B ρ w H) (he : Eff ρ ρ' w w' st.h st'.h ws) (hown : ∀ k ∈ ws, (H k).own = true) (hfl : ∀ k ∈ ws, st'.fl ≤ k) (hle : st'.fl ≤ st.fl) : Ran B ρ ρ' w w' st st' :=
  ⟨RanW.of_step hW he hown hfl hle, fun id l a b => by
    rcases he.dom id l a with h1 | h1
    · rw [b] at h1; cases h1
    · exact h1.1⟩

/-- Whatever is known lies in the abstract memory. -/
abbrev Full (ρ : RM) (h : List O) : Prop := ∀ id l, ρ id = some l → id < h.length
theorem Full.dom {h : List O} (hf : Full ρ h) : Dom ρ h := by
  show ρ h.length = none
  cases hx : ρ h.length with
  | none => rfl
  | some l => exact absurd (hf _ _ hx) (Nat.lt_irrefl _)
theorem Full.ran {B : Nat} {st st' : St} (hf : Full ρ st.h) (hr : Ran B ρ ρ' w w' st st') : Full ρ' st'.h := fun id l hl => by
  cases h0 : ρ id with
  | some l0 => exact Nat.lt_of_lt_of_le (hf id l0 h0) hr.len
  | none => exact (hr.place id l hl h0).1

/-- The state: memory and what is known of it. -/
structure SRel (B : Nat) (ρ : RM) (w : World) (st : St) : Prop where
  mem : WRel B ρ w (hp st.h)
  full : Full ρ st.h

/-- After a call that is quiet: the memory is the caller's again. -/
theorem SRel.back {B : Nat} {st st' : St} (hS : SRel B ρ w st) (hr : Ran B ρ ρ' w w' { st with fl := st.h.length } st') (hq : st.h.length ≤ st'.fl) : SRel B ρ w' st ∧ Ran B ρ ρ w w' st st := by
  have hall : ∀ k, k < w.heap.size → w'.heap[k]? = w.heap[k]? := fun k hk => hr.keep k hk fun id l hl _ => Nat.lt_of_lt_of_le (hS.full id l hl) hq
  refine ⟨⟨⟨Nat.le_trans hS.mem.base hr.size, ?_, hS.mem.ro, ?_, hS.mem.sep⟩, hS.full⟩, ⟨⟨RM.le_refl ρ, hr.os, hr.tape, hr.output, hr.size, hr.below, fun k hk _ => hall k hk, Nat.le_refl _, Nat.le_refl _, fun id l h k => by rw [h] at k; cases k⟩, fun id l h k => by rw [h] at k; cases k⟩⟩
  · intro id l hl
    refine (hS.mem.rel id l hl).same (hall l.b ?_)
    by_cases h : (hp st.h id).ro = true
    · exact Nat.lt_of_lt_of_le (hS.mem.ro id l hl h) hS.mem.base
    · exact (hS.mem.own id l hl (by simpa using h)).2
  · intro id l hl h
    exact ⟨(hS.mem.own id l hl h).1, Nat.lt_of_lt_of_le (hS.mem.own id l hl h).2 hr.size⟩

/-- After a call: the floor is the caller's again. -/
theorem Ran.joined {B : Nat} {st st' : St} (hf : Full ρ st.h) (hr : Ran B ρ ρ' w w' { st with fl := st.h.length } st') : Ran B ρ ρ' w w' st (Ai.joined st st') := by
  have hcase : (Ai.joined st st').fl ≤ st'.fl ∨ st.h.length ≤ st'.fl := by
    unfold Ai.joined
    by_cases h : st'.fl < st.h.length
    · left; simp only [h, if_true]; exact Nat.min_le_right _ _
    · right; omega
  refine ⟨⟨hr.le, hr.os, hr.tape, hr.output, hr.size, hr.below, ?_, ?_, hr.len, ?_⟩, hr.fresh⟩
  · intro k hk hid
    refine hr.keep k hk fun id l hl e => ?_
    rcases hcase with h | h
    · exact Nat.lt_of_lt_of_le (hid id l hl e) h
    · exact Nat.lt_of_lt_of_le (hf id l hl) h
  · unfold Ai.joined
    by_cases h : st'.fl < st.h.length
    · simp only [h, if_true]; exact Nat.min_le_left _ _
    · simp only [h, if_false]; exact Nat.le_refl _
  · intro id l hl h0
    obtain ⟨b, c⟩ := hr.place id l hl h0
    refine ⟨b, ?_⟩
    rcases c with c | ⟨k, lk, q1, q2, q3⟩
    · exact .inl c
    · rcases hcase with h | h
      · exact .inr ⟨k, lk, q1, q2, Nat.le_trans h q3⟩
      · have := hf k lk q1; omega

end Go.Ai
