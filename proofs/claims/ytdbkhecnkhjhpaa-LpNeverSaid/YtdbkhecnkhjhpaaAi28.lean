/- Regions that draw their order are sound. -/
import Derived.Test.YtdbkhecnkhjhpaaAi27
namespace Go.Ai
open Go.RowKit
set_option linter.unusedSimpArgs false
set_option linter.unusedVariables false
variable {P : Program} {ρ ρ' : RM} {w w' : World} {D : List Deferred}
section
variable {nt : Nat} {ops : Array Oper} {l : List ROper} {call : CallF} {frs : Nat → Fr} {sts : Nat → St} {fps : Nat → FP} {vs : Nat → Value}
variable {B : Nat} {ρ0 : RM} {w0 : World} {S : Nat → Prop} {a : Act} {H : Nat → O} {i : Nat}

theorem did_none (hst : WRel B ρ w H) (h1 : sts (i + 1) = sts i) (h2 : fps i = {}) (h3 : vs i = undef) : Did B sts fps vs i ρ ρ w w H H undef :=
  ⟨hst, fun sX _ _ => (Ran.refl B ρ w sX).toRanW, by rw [h3]; exact VRel.undef_ ρ, fun id lo h => .inl h, fun id lo h k => by (rw [h] at k; cases k),
   fun id lo _ _ hw => by (rw [h2] at hw; rcases hw with hw | hw; exact absurd hw (by simp); cases hw), fun id lo _ _ => rfl, fun id hid => by (rw [h2] at hid; exact absurd hid (by simp))⟩

theorem did_step (G : Reg P nt ops l call frs sts fps vs) (T : Taken ops S i) (hf0 : Full ρ0 (sts 0).h) (hst : Stage D B nt ops l frs sts fps ρ0 w0 S a w ρ H) {o : Oper} {r : ROp} (ho : ops[i]? = some o) (hc : cop P o = some r) (hnc : ∀ f x, r ≠ .call f x)
    (hs : step r (ev (frs i)) (sts i) = some (.val (vs i), sts (i + 1))) (hr : (fps i).r = (fpOf r (ev (frs i)) (sts i)).r) (hw : (fps i).w = (fpOf r (ev (frs i)) (sts i)).w) (hb : (fps i).bad = false) :
    ∃ ρ' v' w' H', ((execOp a.eval o).run P w = .ok (.value v') w' ∨ ((execOp a.eval o).run P w = .ok .skip w' ∧ v' = undef)) ∧ Did B sts fps vs i ρ ρ' w w' H H' v' := by
  have hg := hst.given G T ho hc
  have hblk : ∀ b, (b ∈ (fps i).r ∨ b ∈ (fps i).w) → ∀ L, ρ b = some L → b < (sts i).h.length → H b = hp (sts i).h b := fun b hb L hL hlt => hst.blk b L i (Nat.le_of_lt T.lt) hL hlt (G.blkCut T hb)
  have hrel : ∀ b, (b ∈ (fps i).r ∨ b ∈ (fps i).w) → ∀ L, ρ b = some L → CRel ρ w L (hp (sts i).h b) := fun b hb L hL => by
    by_cases hlt : b < (sts i).h.length
    · rw [← hblk b hb L hL hlt]; exact hst.mem.rel b L hL
    · rw [hp_none (Nat.not_lt.1 hlt)]; trivial
  have hknown : ∀ b ∈ (fpOf r (ev (frs i)) (sts i)).r ++ (fpOf r (ev (frs i)) (sts i)).w, ∃ L, ρ b = some L :=
    fp_known (w := w) (fun x hx => hg.rel x (cop_fpOps hc x hx)) fun b hb L hL => hrel b (by
      obtain ⟨x, hx, hbx⟩ := List.mem_flatMap.1 hb
      rw [hr, hw]
      exact fp_cover hnc x hx b hbx) L hL
  have hsee : Sees ρ w (sts i).h ((fpOf r (ev (frs i)) (sts i)).r ++ (fpOf r (ev (frs i)) (sts i)).w) := hp_sees hknown fun b hb L hL => hrel b (by rw [hr, hw]; exact List.mem_append.1 hb) L hL
  have hfresh : ∀ id, (sts i).h.length ≤ id → id < (sts (i + 1)).h.length → ρ id = none := fun id h1 h2 => hst.fresh G T hf0 h1 h2
  obtain ⟨⟨ws, ⟨ρ', v', w', hrun, heff, hv⟩, hws⟩, hfl, hlen, hown⟩ := step_ok (w := w) hc hg (fun hne => hfresh _ (Nat.le_refl _) (by have := (G.keptAt T.lt).1.len; omega)) hsee hs
  have hws' : ∀ k ∈ ws, ∃ o, (sts i).h[k]? = some o ∧ o.own = true := fun k hk => (hws k hk).2.2
  have hwlt : ∀ k ∈ ws, k < (sts i).h.length := fun k hk => by obtain ⟨o, h1, _⟩ := hws' k hk; exact (List.getElem?_eq_some_iff.1 h1).1
  have hwk : ∀ k ∈ ws, ∃ l, ρ k = some l := fun k hk => hknown k (List.mem_append.2 (.inr (hws k hk).1))
  have hHk : ∀ k ∈ ws, H k = hp (sts i).h k := fun k hk => by
    obtain ⟨L, hL⟩ := hwk k hk
    exact hblk k (.inr (by rw [hw]; exact (hws k hk).1)) L hL (hwlt k hk)
  have hmem := hst.mem.step heff hws' hHk hwk hlen hown (step_ro hs)
  have hran := Ran.of_step hst.mem heff (fun k hk => by
    obtain ⟨o, h1, h2⟩ := hws' k hk
    rw [hHk k hk, hp_some h1]; exact h2) (fun k hk => (hws k hk).2.1) hfl
  refine ⟨ρ', v', w', _, hrun, hmem, fun sX h1 h2 => hran.toRanW.weaken h1 h2, hv, ?_, ?_, ?_, ?_, ?_⟩
  · intro id lo hid
    cases hx : ρ id with
    | some lo' =>
      left
      rw [← hx]
      obtain rfl : lo = lo' := Option.some.inj (hid.symm.trans (heff.le id lo' hx))
      rw [hx]
    | none =>
      right
      rcases heff.dom id lo hid with h | h
      · rw [hx] at h; cases h
      · exact ⟨rfl, h⟩
  · intro id lo hid hn
    rcases heff.dom id lo hid with h | h
    · rw [hn] at h; cases h
    · unfold touched; rw [if_pos (.inr h)]
  · intro id lo hid hlt hwr
    rcases hwr with hwr | hwr
    · unfold touched
      split
      · rfl
      · rename_i hnt
        have hnw : id ∉ ws := fun h => hnt (.inl h)
        rw [hblk id (.inr hwr) lo hid hlt]
        have := heff.same id hlt hnw
        simp [hp, List.getD, this]
    · rw [hb] at hwr; cases hwr
  · intro id lo hid hno
    unfold touched
    split
    · rename_i ht
      exfalso
      rcases ht with ht | ht
      · exact hno ⟨hwlt id ht, .inl (by rw [hw]; exact (hws id ht).1)⟩
      · rw [hfresh id ht.1 ht.2] at hid; cases hid
    · rfl
  · intro id hid
    rw [hw] at hid
    obtain ⟨L, hL⟩ := hknown id (List.mem_append.2 (.inr hid))
    exact ⟨L, heff.le id L hL⟩

/-- Before a call the memory is that of the text's order. -/
theorem Stage.full (G : Reg P nt ops l call frs sts fps vs) (T : Taken ops S i) (hf0 : Full ρ0 (sts 0).h) (hst : Stage D B nt ops l frs sts fps ρ0 w0 S a w ρ H) (hall : (fps i).all = true) (hbad : (fps i).bad = true) :
    (∀ id lo, ρ id = some lo → id < (sts i).h.length ∧ H id = hp (sts i).h id) ∧ SRel B ρ w (sts i) := by
  have hi := T.lt
  have hfull : Full ρ (sts i).h := fun id lo hid => by
    rcases hst.dom id lo hid with ⟨lo0, h0⟩ | ⟨k, hk, hS, h3, h4⟩
    · exact Nat.lt_of_lt_of_le (hf0 id lo0 h0) (G.mono (i := 0) (j := i) (by omega) (by omega)).len
    · have hki : k ≠ i := fun e => T.no (e ▸ hS)
      have hal : (fps k).al = true := by rw [(G.keptAt hk).2.2]; simp; omega
      have hlt := (G.callCut T hall hk (.inr (.inr ⟨hal, hbad⟩)) hki).1 hS
      exact Nat.lt_of_lt_of_le h4 (G.mono (i := k + 1) (j := i) (by omega) (by omega)).len
  have hH : ∀ id lo, ρ id = some lo → H id = hp (sts i).h id := fun id lo hid => by
    refine hst.blk id lo i (Nat.le_of_lt hi) hid (hfull id lo hid) fun k hk _ hw => ?_
    by_cases hki : k = i
    · subst hki
      exact ⟨fun h => absurd h T.no, fun h => absurd h (Nat.lt_irrefl _)⟩
    · refine G.callCut T hall hk ?_ hki
      rcases hw with hw | hw
      · exact .inl ⟨id, hw⟩
      · exact .inr (.inl hw)
  exact ⟨fun id lo hid => ⟨hfull id lo hid, hH id lo hid⟩, ⟨hst.mem.congr hH, hfull⟩⟩

end
end Go.Ai
