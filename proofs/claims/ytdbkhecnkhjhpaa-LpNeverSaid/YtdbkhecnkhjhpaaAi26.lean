/- Regions that draw their order: from stage to stage. -/
import Derived.Test.YtdbkhecnkhjhpaaAi25
namespace Go.Ai
open Go.RowKit
set_option linter.unusedSimpArgs false
set_option linter.unusedVariables false
variable {P : Program} {ρ ρ' : RM} {w w' : World} {D : List Deferred}

theorem clash_ww {x y : FP} {id : Nat} (hx : id ∈ x.w ∨ x.bad = true) (hy : id ∈ y.w ∨ y.bad = true) : x.clash y = true := by
  have tch : ∀ z : FP, (id ∈ z.w ∨ z.bad = true) → z.touches = true := fun z hz => by
    unfold FP.touches
    rcases hz with h | h
    · have : z.w.isEmpty = false := by cases hw : z.w with | nil => rw [hw] at h; cases h | cons _ _ => rfl
      simp [this]
    · simp [h]
  unfold FP.clash FP.hits
  rcases hx with h1 | h1
  · rcases hy with h2 | h2
    · have : (x.w.any fun k => y.r.contains k || y.w.contains k) = true := List.any_eq_true.2 ⟨id, h1, by simp [h2]⟩
      simp only [this, Bool.or_true, Bool.true_or]
    · simp [h2, tch x (.inl h1)]
  · simp [h1, tch y hy]
theorem clash_al {x y : FP} (hx : x.al = true) (hy : y.bad = true) : x.clash y = true := by
  unfold FP.clash FP.hits
  simp [hx, hy]
theorem clash_rw {x y : FP} {id : Nat} (hx : id ∈ x.r ∨ id ∈ x.w) (hy : id ∈ y.w ∨ y.bad = true) : x.clash y = true ∧ y.clash x = true := by
  have tx : x.touches = true := by
    unfold FP.touches
    rcases hx with h | h
    · have : x.r.isEmpty = false := by cases hw : x.r with | nil => rw [hw] at h; cases h | cons _ _ => rfl
      simp [this]
    · have : x.w.isEmpty = false := by cases hw : x.w with | nil => rw [hw] at h; cases h | cons _ _ => rfl
      simp [this]
  have : y.hits x = true := by
    unfold FP.hits
    rcases hy with h | h
    · have : (y.w.any fun k => x.r.contains k || x.w.contains k) = true := List.any_eq_true.2 ⟨id, h, by rcases hx with q | q <;> simp [q]⟩
      simp only [this, Bool.or_true]
    · simp [h, tx]
  unfold FP.clash
  simp [this]

section
variable {nt : Nat} {ops : Array Oper} {l : List ROper} {call : CallF} {frs : Nat → Fr} {sts : Nat → St} {fps : Nat → FP} {vs : Nat → Value}

structure Stage (D : List Deferred) (B nt : Nat) (ops : Array Oper) (l : List ROper) (frs : Nat → Fr) (sts : Nat → St) (fps : Nat → FP) (ρ0 : RM) (w0 : World) (S : Nat → Prop) (a : Act) (w : World) (ρ : RM) (H : Nat → O) : Prop where
  mem : WRel B ρ w H
  tsize : nt ≤ a.tmps.size
  defers : a.defers = D
  ran : ∀ sF : St, sF.fl ≤ (sts 0).fl → (sts 0).h.length ≤ sF.h.length → (∀ k, k < ops.size → S k → sF.fl ≤ (sts (k + 1)).fl ∧ (sts (k + 1)).h.length ≤ sF.h.length) → RanW B ρ0 ρ w0 w (sts 0) sF
  slot : ∀ t j, j ≤ ops.size → (∀ (k : Nat) r, l[k]? = some r → r.dst = some t → (S k ↔ k < j)) → VRel ρ (get (frs j) t) (a.tmps.getD t undef)
  blk : ∀ id lo j, j ≤ ops.size → ρ id = some lo → id < (sts j).h.length → (∀ k, k < ops.size → id < (sts k).h.length → (id ∈ (fps k).w ∨ (fps k).bad = true) → (S k ↔ k < j)) → H id = hp (sts j).h id
  dom : ∀ id lo, ρ id = some lo → (∃ lo0, ρ0 id = some lo0) ∨ ∃ k, k < ops.size ∧ S k ∧ (sts k).h.length ≤ id ∧ id < (sts (k + 1)).h.length
  wk : ∀ k, k < ops.size → S k → ∀ id ∈ (fps k).w, ∃ lo, ρ id = some lo

structure Did (B : Nat) (sts : Nat → St) (fps : Nat → FP) (vs : Nat → Value) (i : Nat) (ρ ρ' : RM) (w w' : World) (H H' : Nat → O) (v' : Value) : Prop where
  mem : WRel B ρ' w' H'
  ran : ∀ sX : St, sX.fl ≤ (sts (i + 1)).fl → (sts (i + 1)).h.length ≤ sX.h.length → RanW B ρ ρ' w w' sX sX
  val : VRel ρ' (vs i) v'
  dom : ∀ id lo, ρ' id = some lo → ρ id = some lo ∨ (ρ id = none ∧ (sts i).h.length ≤ id ∧ id < (sts (i + 1)).h.length)
  new : ∀ id lo, ρ' id = some lo → ρ id = none → H' id = hp (sts (i + 1)).h id
  writer : ∀ id lo, ρ id = some lo → id < (sts i).h.length → (id ∈ (fps i).w ∨ (fps i).bad = true) → H' id = hp (sts (i + 1)).h id
  other : ∀ id lo, ρ id = some lo → ¬ (id < (sts i).h.length ∧ (id ∈ (fps i).w ∨ (fps i).bad = true)) → H' id = H id
  wk : ∀ id ∈ (fps i).w, ∃ lo, ρ' id = some lo

theorem slots_dst {ops : Array Oper} {o : Oper} {t : Nat} (h : o.dst = some t) : t ∈ slots ops o := by
  unfold slots
  simp [h]

theorem Stage.next {B : Nat} {ρ0 : RM} {w0 : World} {S : Nat → Prop} {a : Act} {H H' : Nat → O} {v' : Value} {i : Nat} {r : ROper} (G : Reg P nt ops l call frs sts fps vs) (hst : Stage D B nt ops l frs sts fps ρ0 w0 S a w ρ H) (hi : i < ops.size) (hr : l[i]? = some r) (hSi : ¬ S i) (hdown : ∀ x y, S x → anc ops x y → S y)
    (hd : Did B sts fps vs i ρ ρ' w w' H H' v') : Stage D B nt ops l frs sts fps ρ0 w0 (fun k => S k ∨ k = i) (a.put r.dst v') w' ρ' H' := by
  have hle : ρ.le ρ' := (hd.ran (sts (i + 1)) (Nat.le_refl _) (Nat.le_refl _)).le
  obtain ⟨r', hr', hco, hts⟩ := G.step hi
  obtain rfl : r = r' := Option.some.inj (hr.symm.trans hr')
  obtain ⟨o, ho, _, hdst, hdlt, _, _⟩ := coper_spec hco
  -- a later one that has been taken is not held back by this one
  have hlater : ∀ k, i < k → k < ops.size → S k → anc ops k i → False := fun k _ _ hk ha => hSi (hdown k i hk ha)
  refine ⟨hd.mem, ?_, ?_, ?_, ?_, ?_, ?_, ?_⟩
  · cases r.dst with
    | none => exact hst.tsize
    | some d => simpa [Act.put] using hst.tsize
  · cases r.dst with
    | none => exact hst.defers
    | some d => exact hst.defers
  · intro sF h1 h2 h3
    obtain ⟨q1, q2⟩ := h3 i hi (.inr rfl)
    exact (hst.ran sF h1 h2 fun k hk hS => h3 k hk (.inl hS)).trans (hd.ran sF q1 q2)
  · intro t j hj hcons
    by_cases ht : r.dst = some t
    · have hij : i < j := (hcons i r hr ht).1 (.inr rfl)
      have hst1 : get (frs j) t = get (frs (i + 1)) t := G.slotStable (by omega) hj fun k rk h1 h2 hk hdk => by
        have hk' : k < ops.size := by omega
        rcases (hcons k rk hk hdk).2 h2 with hS | hS
        · obtain ⟨rk', hrk', hcok, _⟩ := G.step hk'
          obtain rfl : rk = rk' := Option.some.inj (hk.symm.trans hrk')
          obtain ⟨ok, hok, _, hdstk, _⟩ := coper_spec hcok
          exact hlater k (by omega) hk' hS (G.slotAnc (t := t) (by omega) ho hok (.inr ⟨by rw [← hdstk]; exact hdk, slots_dst (by rw [← hdst]; exact ht)⟩))
        · omega
      rw [hst1, hts.put, ht]
      show VRel ρ' (get (put (frs i) t (vs i)) t) ((a.tmps.setIfInBounds t v').getD t undef)
      rw [get_put, if_pos rfl]
      have hlt : t < a.tmps.size := Nat.lt_of_lt_of_le (hdlt t (by rw [← hdst]; exact ht)) hst.tsize
      simpa [hlt] using hd.val
    · have h1 := hst.slot t j hj fun k rk hk hdk => by
        have hki : k ≠ i := fun e => by subst e; rw [hr] at hk; obtain rfl := Option.some.inj hk; exact ht hdk
        have := hcons k rk hk hdk
        constructor
        · exact fun hS => this.1 (.inl hS)
        · exact fun hkj => (this.2 hkj).resolve_right hki
      have h2 : (a.put r.dst v').tmps.getD t undef = a.tmps.getD t undef := by
        cases hdd : r.dst with
        | none => rfl
        | some d =>
          have hne : d ≠ t := fun e => ht (by rw [hdd, e])
          simp only [Act.put, Array.getD_eq_getD_getElem?]
          rw [Array.getElem?_setIfInBounds_ne hne]
      rw [h2]
      exact h1.mono hle
  · intro id lo j hj hid hlt hcons
    rcases hd.dom id lo hid with hold | ⟨hnone, hn1, hn2⟩
    · by_cases hwr : id < (sts i).h.length ∧ (id ∈ (fps i).w ∨ (fps i).bad = true)
      · rw [hd.writer id lo hold hwr.1 hwr.2]
        have hij : i < j := (hcons i hi hwr.1 hwr.2).1 (.inr rfl)
        have hidlt : id < (sts (i + 1)).h.length := Nat.lt_of_lt_of_le hwr.1 (G.keptAt hi).1.len
        refine (G.stable (by omega) hj hidlt fun k h1 h2 => ?_).symm
        have hk' : k < ops.size := by omega
        have hnot : ¬ (id ∈ (fps k).w ∨ (fps k).bad = true) := fun hk => by
          have hlk : id < (sts k).h.length := Nat.lt_of_lt_of_le hidlt (G.mono h1 (by omega)).len
          rcases (hcons k hk' hlk hk).2 h2 with hS | hS
          · refine hlater k (by omega) hk' hS ?_
            refine Classical.byContradiction fun hna => ?_
            have := G.clash (by omega) hk' hna
            rw [clash_ww hwr.2 hk] at this
            cases this
          · omega
        simp only [not_or, Bool.not_eq_true] at hnot
        exact hnot
      · rw [hd.other id lo hold hwr]
        refine hst.blk id lo j hj hold hlt fun k hk hlk hw => ?_
        have hki : k ≠ i := fun e => by subst e; exact hwr ⟨hlk, hw⟩
        have := hcons k hk hlk hw
        constructor
        · exact fun hS => this.1 (.inl hS)
        · exact fun hkj => (this.2 hkj).resolve_right hki
    · rw [hd.new id lo hid hnone]
      have hij : i < j := by
        refine Classical.byContradiction fun hn => ?_
        have := (G.mono (i := j) (j := i) (by omega) (by omega)).len
        omega
      refine (G.stable (by omega) hj hn2 fun k h1 h2 => ?_).symm
      have hk' : k < ops.size := by omega
      have hnot : ¬ (id ∈ (fps k).w ∨ (fps k).bad = true) := fun hk => by
        have hlk : id < (sts k).h.length := Nat.lt_of_lt_of_le hn2 (G.mono h1 (by omega)).len
        rcases (hcons k hk' hlk hk).2 h2 with hS | hS
        · rcases hk with hk | hk
          · obtain ⟨lo', hlo'⟩ := hst.wk k hk' hS id hk
            rw [hnone] at hlo'; cases hlo'
          · refine hlater k (by omega) hk' hS ?_
            refine Classical.byContradiction fun hna => ?_
            have := G.clash (by omega) hk' hna
            have hal : (fps i).al = true := by rw [(G.keptAt hi).2.2]; simp; omega
            rw [clash_al hal hk] at this
            cases this
        · omega
      simp only [not_or, Bool.not_eq_true] at hnot
      exact hnot
  · intro id lo hid
    rcases hd.dom id lo hid with hold | ⟨_, hn1, hn2⟩
    · rcases hst.dom id lo hold with h | ⟨k, h1, h2, h3⟩
      · exact .inl h
      · exact .inr ⟨k, h1, .inl h2, h3⟩
    · exact .inr ⟨i, hi, .inr rfl, hn1, hn2⟩
  · intro k hk hS id hid
    rcases hS with hS | rfl
    · obtain ⟨lo, hlo⟩ := hst.wk k hk hS id hid
      exact ⟨lo, hle id lo hlo⟩
    · exact hd.wk id hid

end
end Go.Ai
