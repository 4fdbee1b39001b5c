/- Regions that draw their order: calls that write nothing of old, beside operations that make blocks. -/
import Derived.Test.YtdbkhecnkhjhpaaAi28
namespace Go.Ai
open Go.RowKit
set_option linter.unusedSimpArgs false
set_option linter.unusedVariables false
variable {P : Program} {ρ ρ' : RM} {w w' : World} {D : List Deferred}

/-- What two relations know: by the first one. -/
def meet (ρ ρg : RM) : RM := fun id => if (ρg id).isSome then ρ id else none
theorem meet_le (ρ ρg : RM) : (meet ρ ρg).le ρ := fun id l h => by
  unfold meet at h
  split at h
  · exact h
  · cases h
theorem meet_some {ρg : RM} {id : Nat} {l lg : Loc} (h : ρ id = some l) (hg : ρg id = some lg) : meet ρ ρg id = some l := by simp [meet, hg, h]
theorem meet_dom {ρg : RM} {id : Nat} {l : Loc} (h : meet ρ ρg id = some l) : ρ id = some l ∧ ∃ lg, ρg id = some lg := by
  unfold meet at h
  split at h
  · rename_i hs; exact ⟨h, Option.isSome_iff_exists.1 hs⟩
  · cases h

theorem VRel.meet {ρg : RM} {v v' : Value} (h : VRel ρ v v') : ∀ v'', VRel ρg v v'' → VRel (Ai.meet ρ ρg) v v' := by
  induction h with
  | flat h1 h2 => intro _ _; exact .flat h1 h2
  | empty a => intro _ _; exact .empty a
  | ptr h => intro v'' h2; obtain ⟨l, hl, _⟩ := h2.inv_ptr; exact .ptr (meet_some h hl)
  | slice h a b c d => intro v'' h2; obtain ⟨l, _, _, hl, _⟩ := h2.inv_slice; exact .slice (meet_some h hl) a b c d
  | map h => intro v'' h2; obtain ⟨l, hl, _⟩ := h2.inv_map; exact .map (meet_some h hl)
  | func hl _ ih =>
    intro v'' h2
    obtain ⟨_, cap, _, hc⟩ := h2.inv_func
    refine .func hl fun i a b ha hb => ?_
    obtain ⟨b2, _, hb2⟩ := hc.get (i := i) (a := a) (by simpa using ha)
    exact ih i a b ha hb b2 hb2
  | iface _ ih => intro v'' h2; obtain ⟨y, _, hy⟩ := h2.inv_iface; exact .iface (ih y hy)
  | agg hl _ ih =>
    intro v'' h2
    obtain ⟨cs, _, hc⟩ := h2.inv_agg
    refine .agg hl fun i a b ha hb => ?_
    obtain ⟨b2, _, hb2⟩ := hc.get (i := i) (a := a) (by simpa using ha)
    exact ih i a b ha hb b2 hb2
  | tuple hl _ ih =>
    intro v'' h2
    obtain ⟨cs, _, hc⟩ := h2.inv_tuple
    refine .tuple hl fun i a b ha hb => ?_
    obtain ⟨b2, _, hb2⟩ := hc.get (i := i) (a := a) (by simpa using ha)
    exact ih i a b ha hb b2 hb2
theorem LRel.meet {ρg : RM} {xs ys zs : List Value} (h : LRel ρ xs ys) (k : LRel ρg xs zs) : LRel (Ai.meet ρ ρg) xs ys :=
  ⟨h.1, fun i a b ha hb => by obtain ⟨c, hc, hr⟩ := k.get ha; exact (h.2 i a b ha hb).meet c hr⟩
theorem CRel.meet {ρg : RM} {wg : World} {L Lg : Loc} {o : O} (h : CRel ρ w L o) (k : CRel ρg wg Lg o) : CRel (Ai.meet ρ ρg) w L o := by
  cases o with
  | cells c e own =>
    obtain ⟨cs, e', fz, h1, h2, h3⟩ := h
    obtain ⟨cs2, e2, fz2, k1, k2, k3⟩ := k
    exact ⟨cs, e', fz, h1, fun i v hi => let ⟨v', q1, q2⟩ := h2 i v hi; let ⟨v2, _, q4⟩ := k2 i v hi; ⟨v', q1, q2.meet v2 q4⟩, h3⟩
  | map es clock =>
    obtain ⟨es', h1, h3, h4, h5⟩ := h
    obtain ⟨es2, k1, k3, k4, k5⟩ := k
    refine ⟨es', h1, h3, fun i a b ha hb => ?_, h5⟩
    have hi : i < es2.size := by rw [← k3]; exact (List.getElem?_eq_some_iff.1 ha).1
    obtain ⟨x, y, z⟩ := h4 i a b ha hb
    exact ⟨x, y.meet _ (k4 i a es2[i] ha (by simp [hi])).2.1, z⟩
  | iter m since seen stepped =>
    obtain ⟨h0, m', h1, h3⟩ := h
    obtain ⟨_, m2, _, k3⟩ := k
    refine ⟨h0, m', h1, ?_⟩
    cases m with
    | none => exact h3
    | some id =>
      obtain ⟨b, h4, h5⟩ := h3
      obtain ⟨b2, k4, _⟩ := k3
      exact ⟨b, meet_some h4 k4, h5⟩
  | dead => trivial

section
variable {nt : Nat} {ops : Array Oper} {l : List ROper} {call : CallF} {frs : Nat → Fr} {sts : Nat → St} {fps : Nat → FP} {vs : Nat → Value}
variable {B : Nat} {ρ0 : RM} {w0 : World} {S : Nat → Prop} {a : Act} {H : Nat → O} {i : Nat}

/-- The order of the text can be run. -/
theorem Reg.ghost {F : Fence} (hF : Open F) (hcall : CallsOkD F P B call) (G : Reg P nt ops l call frs sts fps vs) {a0 : Act} (h0 : FRel D ρ0 nt (frs 0) a0) (hS0 : SRel B ρ0 w0 (sts 0)) :
    ∀ j, j ≤ ops.size → ∃ ρg wg ag, FRel D ρg nt (frs j) ag ∧ SRel B ρg wg (sts j) := by
  intro j
  induction j with
  | zero => intro _; exact ⟨ρ0, w0, a0, h0, hS0⟩
  | succ j ih =>
    intro hj
    obtain ⟨ρg, wg, ag, hf, hS⟩ := ih (by omega)
    obtain ⟨r, hr, hco, hts⟩ := G.step (k := j) (by omega)
    obtain ⟨o, ho, hc, hdst, hdlt, _, _⟩ := coper_spec hco
    have next : ∀ (v' : Value) (st1 : St) (ρ1 : RM) (w1 : World), sts (j + 1) = st1 → VRel ρ1 (vs j) v' → SRel B ρ1 w1 st1 → ρg.le ρ1 → ∃ ρg wg ag, FRel D ρg nt (frs (j + 1)) ag ∧ SRel B ρg wg (sts (j + 1)) := by
      intro v' st1 ρ1 w1 he hv hS1 hle
      refine ⟨ρ1, w1, ag.put r.dst v', ?_, he ▸ hS1⟩
      rw [hts.put, hdst]
      exact (hf.mono hle).putD hdlt hv
    rcases hts.act with ⟨_, hv, hs, _⟩ | ⟨_, hop⟩
    · exact next undef (sts j) ρg wg hs (by rw [hv]; exact VRel.undef_ _) hS (RM.le_refl _)
    · have hgiven := given_of hc hf
      by_cases hcl : ∃ f x, r.op = .call f x
      · obtain ⟨f, x, hcl⟩ := hcl
        rw [hcl] at hop hc
        unfold opD at hop
        split at hop
        · rename_i f' x' heq
          obtain ⟨rfl, rfl⟩ := ROp.call.inj heq
          split at hop
          · rename_i v2 st2 hdc
            simp only [Option.some.injEq, Prod.mk.injEq] at hop
            obtain ⟨rfl, hst2, hfp⟩ := hop
            unfold doCall at hdc
            split at hdc
            · rename_i g args ht
              obtain ⟨hcb, hok⟩ := hcall _ _ _ _ _ hdc
              obtain ⟨vs', hvs, hrun⟩ := run_callOp (w := wg) hc hgiven ht hcb
              obtain ⟨_, hcs⟩ := hok rfl 0 ρg wg vs' hvs (hS.fl _)
              obtain ⟨e, w1, fr, hpost, _⟩ := hcs [] (fun d hd => by rw [hF.depth] at hd; cases hd)
              cases e with
              | returned v' =>
                obtain ⟨v, st1, ρ1, ⟨h1, rfl⟩, h2, h3, h4⟩ := hpost
                obtain rfl := Out.ret.inj h1
                exact next v' _ ρ1 w1 hst2.symm h2 ⟨h3.mem, h3.full⟩ h4.le
              | panicked chain => obtain ⟨v, v', st1, ρ1, ⟨h1, _⟩, _⟩ := hpost; cases h1
              | outgrown => exact hpost.elim
            · cases hdc
          · cases hop
        · rename_i hne
          exact absurd rfl (hne f x)
      · have hnc : ∀ f x, r.op ≠ .call f x := fun f x e => hcl ⟨f, x, e⟩
        have hs : Ai.step r.op (ev (frs j)) (sts j) = some (.val (vs j), sts (j + 1)) := by
          unfold opD at hop
          split at hop
          · rename_i f x heq; exact absurd heq (hnc f x)
          · split at hop
            · rename_i v2 st2 h1
              simp only [Option.some.injEq, Prod.mk.injEq] at hop
              obtain ⟨rfl, rfl, h2⟩ := hop
              exact h1
            · cases hop
        have hk : ∀ b ∈ (fpOf r.op (ev (frs j)) (sts j)).w, ∃ L, ρg b = some L := fun b hb =>
          fp_known (e' := ag.eval) (w := wg) (fun x hx => ev_rel hf (cop_okO hc x (cop_fpOps hc x hx))) (fun b _ L hL => hS.mem.rel b L hL) b (List.mem_append.2 (.inr hb))
        obtain ⟨ρ1, v', w1, hrun, hv, hS1, hran⟩ := hS.step (step_ok hc hgiven (fun _ => hS.full.dom) (sees_of hc hf hS) hs) hk (step_ro hs)
        exact next v' _ ρ1 w1 rfl hv hS1 hran.le

theorem Stage.agree (G : Reg P nt ops l call frs sts fps vs) (T : Taken ops S i) (hst : Stage D B nt ops l frs sts fps ρ0 w0 S a w ρ H) (hall : (fps i).all = true) :
    ∀ id lo, ρ id = some lo → id < (sts i).h.length → H id = hp (sts i).h id := fun id lo hid hlt => by
  refine hst.blk id lo i (Nat.le_of_lt T.lt) hid hlt fun k hk _ hw => ?_
  by_cases hki : k = i
  · subst hki
    exact ⟨fun h => absurd h T.no, fun h => absurd h (Nat.lt_irrefl _)⟩
  · refine G.callCut T hall hk ?_ hki
    rcases hw with hw | hw
    · exact .inl ⟨id, hw⟩
    · exact .inr (.inl hw)

theorem Stage.meet (G : Reg P nt ops l call frs sts fps vs) (T : Taken ops S i) (hst : Stage D B nt ops l frs sts fps ρ0 w0 S a w ρ H) (hall : (fps i).all = true) {ρg : RM} {wg : World} (hg : SRel B ρg wg (sts i)) :
    SRel B (Ai.meet ρ ρg) w (sts i) := by
  have hd : ∀ id l, Ai.meet ρ ρg id = some l → ρ id = some l ∧ id < (sts i).h.length ∧ H id = hp (sts i).h id := fun id l h => by
    obtain ⟨h1, lg, h2⟩ := meet_dom h
    have := hg.full id lg h2
    exact ⟨h1, this, hst.agree G T hall id l h1 this⟩
  refine ⟨⟨hst.mem.base, fun id l h => ?_, fun id l h hr => ?_, fun id l h hr => ?_, fun x y lx ly hxy hx hy hb hB => ?_⟩, fun id l h => (hd id l h).2.1⟩
  · obtain ⟨h1, h2, h3⟩ := hd id l h
    obtain ⟨_, lg, h4⟩ := meet_dom h
    have := hst.mem.rel id l h1
    rw [h3] at this
    exact this.meet (hg.mem.rel id lg h4)
  · obtain ⟨h1, h2, h3⟩ := hd id l h
    exact hst.mem.ro id l h1 (by rw [h3]; exact hr)
  · obtain ⟨h1, h2, h3⟩ := hd id l h
    exact hst.mem.own id l h1 (by rw [h3]; exact hr)
  · obtain ⟨h1, h2, h3⟩ := hd x lx hx
    obtain ⟨k1, _, _⟩ := hd y ly hy
    rw [← h3]
    exact hst.mem.sep x y lx ly hxy h1 k1 hb hB

/-- What a call has done that wrote nothing of old. -/
theorem did_call (G : Reg P nt ops l call frs sts fps vs) (T : Taken ops S i) (hf0 : Full ρ0 (sts 0).h) (hst : Stage D B nt ops l frs sts fps ρ0 w0 S a w ρ H) (hall : (fps i).all = true) (hwn : (fps i).w = []) (hbad : (fps i).bad = false)
    {ρg : RM} {wg : World} (hg : SRel B ρg wg (sts i)) {st1 : St} {ρ1 : RM} {w1 : World} {v' : Value} (hh : (sts (i + 1)).h = st1.h) (hfl : (sts i).h.length ≤ st1.fl)
    (hv : VRel ρ1 (vs i) v') (hS1 : SRel B ρ1 w1 st1) (hran : Ran B (Ai.meet ρ ρg) ρ1 w w1 { sts i with fl := (sts i).h.length } st1) :
    ∃ ρ' H', Did B sts fps vs i ρ ρ' w w1 H H' v' := by
  have hd : ∀ id l, Ai.meet ρ ρg id = some l → ρ id = some l ∧ id < (sts i).h.length := fun id l h => by
    obtain ⟨h1, lg, h2⟩ := meet_dom h
    exact ⟨h1, hg.full id lg h2⟩
  have kept : ∀ k, k < w.heap.size → w1.heap[k]? = w.heap[k]? := fun k hk => hran.keep k hk fun id l hl _ => Nat.lt_of_lt_of_le (hd id l hl).2 hfl
  have hnew : ∀ id l, ρ1 id = some l → Ai.meet ρ ρg id = none → ρ id = none ∧ (sts i).h.length ≤ id ∧ id < (sts (i + 1)).h.length ∧ w.heap.size ≤ l.b := fun id l h1 h2 => by
    have q1 : (sts i).h.length ≤ id := hran.fresh id l h1 h2
    have q2 : id < st1.h.length := hS1.full id l h1
    have q3 : id < (sts (i + 1)).h.length := by rw [hh]; exact q2
    refine ⟨hst.fresh G T hf0 q1 q3, q1, q3, ?_⟩
    rcases (hran.place id l h1 h2).2 with h | ⟨k, lk, hk1, _, hk3⟩
    · exact h
    · have := (hd k lk hk1).2; omega
  have hold : ∀ id l, ρ id = some l → l.b < w.heap.size := fun id l h => by
    by_cases hr : (H id).ro = true
    · exact Nat.lt_of_lt_of_le (hst.mem.ro id l h hr) hst.mem.base
    · exact (hst.mem.own id l h (by simpa using hr)).2
  have hle1 : ρ1.le (fun id => match ρ id with | some l => some l | none => ρ1 id) := fun id l h1 => by
    cases hm : Ai.meet ρ ρg id with
    | some l2 =>
      obtain rfl : l = l2 := Option.some.inj (h1.symm.trans (hran.le id l2 hm))
      simp [(hd id l hm).1]
    | none => simp [(hnew id l h1 hm).1, h1]
  have hle : ρ.le (fun id => match ρ id with | some l => some l | none => ρ1 id) := fun id l h => by simp [h]
  have hcase : ∀ id l, (match ρ id with | some l => some l | none => ρ1 id) = some l → ρ id = some l ∨ (ρ id = none ∧ ρ1 id = some l ∧ Ai.meet ρ ρg id = none) := fun id l h => by
    cases hx : ρ id with
    | some l2 => rw [hx] at h; exact .inl h
    | none =>
      rw [hx] at h
      refine .inr ⟨rfl, h, ?_⟩
      cases hm : Ai.meet ρ ρg id with
      | none => rfl
      | some l2 => rw [(hd id l2 hm).1] at hx; cases hx
  refine ⟨fun id => match ρ id with | some l => some l | none => ρ1 id, fun id => if (ρ id).isSome then H id else hp st1.h id, ⟨Nat.le_trans hst.mem.base hran.size, ?_, ?_, ?_, ?_⟩, ?_, hv.mono hle1, ?_, ?_, ?_, ?_, ?_⟩
  · intro id l h
    rcases hcase id l h with h | ⟨h1, h2, h3⟩
    · simp only [h, Option.isSome_some, if_true]
      exact ((hst.mem.rel id l h).same (kept l.b (hold id l h))).mono hle
    · simp only [h1, Option.isSome_none, Bool.false_eq_true, if_false]
      exact (hS1.mem.rel id l h2).mono hle1
  · intro id l h hr
    rcases hcase id l h with h | ⟨h1, h2, h3⟩
    · simp only [h, Option.isSome_some, if_true] at hr
      exact hst.mem.ro id l h hr
    · simp only [h1, Option.isSome_none, Bool.false_eq_true, if_false] at hr
      exact hS1.mem.ro id l h2 hr
  · intro id l h hr
    rcases hcase id l h with h | ⟨h1, h2, h3⟩
    · simp only [h, Option.isSome_some, if_true] at hr
      exact ⟨(hst.mem.own id l h hr).1, Nat.lt_of_lt_of_le (hst.mem.own id l h hr).2 hran.size⟩
    · simp only [h1, Option.isSome_none, Bool.false_eq_true, if_false] at hr
      exact hS1.mem.own id l h2 hr
  · intro x y lx ly hxy hx hy hb hB
    rcases hcase x lx hx with h1 | ⟨h1, h2, h3⟩ <;> rcases hcase y ly hy with k1 | ⟨k1, k2, k3⟩
    · simp only [h1, Option.isSome_some, if_true]
      exact hst.mem.sep x y lx ly hxy h1 k1 hb hB
    · have := (hnew y ly k2 k3).2.2.2
      have := hold x lx h1
      omega
    · have := (hnew x lx h2 h3).2.2.2
      have := hold y ly k1
      omega
    · simp only [h1, Option.isSome_none, Bool.false_eq_true, if_false]
      exact hS1.mem.sep x y lx ly hxy h2 k2 hb hB
  · intro sX q1 q2
    refine ⟨hle, hran.os, hran.tape, hran.output, hran.size, hran.below, fun k hk _ => kept k hk, Nat.le_refl _, Nat.le_refl _, fun id l h hn => ?_⟩
    rcases hcase id l h with h | ⟨h1, h2, h3⟩
    · rw [hn] at h; cases h
    · obtain ⟨_, _, p3, p4⟩ := hnew id l h2 h3
      exact ⟨Nat.lt_of_lt_of_le p3 q2, .inl p4⟩
  · intro id lo h
    rcases hcase id lo h with h | ⟨h1, h2, h3⟩
    · exact .inl h
    · obtain ⟨_, p2, p3, _⟩ := hnew id lo h2 h3
      exact .inr ⟨h1, p2, p3⟩
  · intro id lo h hn
    simp [hn, hh]
  · intro id lo h hlt hw
    rcases hw with hw | hw
    · rw [hwn] at hw; cases hw
    · rw [hbad] at hw; cases hw
  · intro id lo h _
    simp [h]
  · intro id hid
    rw [hwn] at hid; cases hid

end
end Go.Ai
