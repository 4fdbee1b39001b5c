/- Regions that draw their order are sound. -/
import Derived.Test.YtdbkhecnkhjhpaaAiG
namespace Go.Ai
open Go.RowKit
set_option linter.unusedSimpArgs false
set_option linter.unusedVariables false
variable {P : Program} {ρ ρ' : RM} {w w' : World} {D : List Deferred}
section
variable {nt : Nat} {ops : Array Oper} {l : List ROper} {call : CallF} {frs : Nat → Fr} {sts : Nat → St} {fps : Nat → FP} {vs : Nat → Value}
variable {B : Nat} {ρ0 : RM} {w0 : World} {S : Nat → Prop} {a : Act} {H : Nat → O} {i : Nat}

/-- One operation, taken at a stage. -/
theorem stage_op {F : Fence} (hF : Open F) {n : Nat} {Q' : Exit → Act → World → Prop} {K : Act → World → Prop} (hcall : CallsOkD F P B call) (G : Reg P nt ops l call frs sts fps vs) (T : Taken ops S i) (hf0 : Full ρ0 (sts 0).h)
    (hst : Stage D B nt ops l frs sts fps ρ0 w0 S a w ρ H) (hgh : ∃ ρg wg ag, FRel D ρg nt (frs i) ag ∧ SRel B ρg wg (sts i)) (hK : ∀ a' w' ρ' H', Stage D B nt ops l frs sts fps ρ0 w0 (fun k => S k ∨ k = i) a' w' ρ' H' → K a' w') : wpOpIn F n P ops Q' i K a w := by
  obtain ⟨r, hr, hco, hts⟩ := G.step T.lt
  obtain ⟨o, ho, hc, hdst, hdlt, hgd, _⟩ := coper_spec hco
  have hnext : ∀ {ρ' v' w' H'}, Did B sts fps vs i ρ ρ' w w' H H' v' → K (a.put o.dst v') w' := fun hd => hK _ _ _ _ (hdst ▸ hst.next G T.lt hr T.no T.down hd)
  have hwt : Region.wanted o (yielded ops a.tmps) = wanted (frs i) r.guard := wanted_rel hco ho fun d wv hg => by
    have hd : d ∈ Ai.slots ops o := by
      rcases hgd with ⟨h1, _⟩ | ⟨j, d', wv', h1, h2, _, h4⟩
      · rw [h1] at hg; cases hg
      · rw [h4] at hg
        simp only [Option.some.injEq, Prod.mk.injEq] at hg
        obtain ⟨rfl, rfl⟩ := hg
        unfold Ai.slots
        rw [h1]
        simp [h2]
    exact hst.slot d i (Nat.le_of_lt T.lt) (G.slotCut T ho hd)
  unfold wpOpIn
  simp only [ho, hwt]
  rcases hts.act with ⟨hw, hv, hs, hfp⟩ | ⟨hw, hop⟩
  · rw [hw]
    exact ⟨fun f _ => hF.fn f, hnext (did_none hst.mem hs hfp hv)⟩
  · rw [if_pos hw]
    refine wpIn_of_run hF hc ?_
    by_cases hcl : ∃ f x, r.op = .call f x
    · obtain ⟨f, x, hcl⟩ := hcl
      rw [hcl] at hop hc
      unfold opD at hop
      split at hop
      · rename_i f' x' heq
        obtain ⟨rfl, rfl⟩ := ROp.call.inj heq
        split at hop
        · rename_i v2 st2 hdc
          simp only [Option.some.injEq, Prod.mk.injEq] at hop
          obtain ⟨rfl, hst2, hfp⟩ := hop
          have hall : (fps i).all = true := by rw [← hfp]
          have hwn : (fps i).w = [] := by rw [← hfp]
          cases hbad : (fps i).bad with
          | true =>
            obtain ⟨hag, hS⟩ := hst.full G T hf0 hall hbad
            unfold doCall at hdc
            split at hdc
            · rename_i g args ht
              obtain ⟨hcb, hok⟩ := hcall _ _ _ _ _ hdc
              obtain ⟨vs', hvs, hrun⟩ := run_callOp (w := w) hc (hst.given G T ho hc) ht hcb
              rw [hrun]
              refine ⟨fun h => absurd h (by rw [hF.depth]; simp), ?_⟩
              refine (hok rfl (n - 1) ρ w vs' hvs (hS.fl _)).mono fun e w1 he => ?_
              cases e with
              | returned v' =>
                obtain ⟨v, st1, ρ1, ⟨h1, rfl⟩, h2, h3, h4⟩ := he
                obtain rfl := Out.ret.inj h1
                have hj := h4.joined hS.full
                rw [hst2] at hj
                have hh : (sts (i + 1)).h = st1.h := by rw [← hst2]; rfl
                refine hnext (H' := hp (sts (i + 1)).h) ⟨by rw [hh]; exact h3.mem, fun sX q1 q2 => hj.toRanW.weaken q1 q2, h2, ?_, fun _ _ _ _ => rfl, fun _ _ _ _ _ => rfl, ?_, fun id hid => by rw [hwn] at hid; cases hid⟩
                · intro id lo hid
                  cases hx : ρ id with
                  | some lo' =>
                    left
                    obtain rfl : lo = lo' := Option.some.inj (hid.symm.trans (hj.le id lo' hx))
                    rfl
                  | none => exact .inr ⟨rfl, hj.fresh id lo hid hx, (hj.place id lo hid hx).1⟩
                · intro id lo hid hno
                  obtain ⟨q1, q2⟩ := hag id lo hid
                  exact absurd ⟨q1, .inr hbad⟩ hno
              | panicked chain => obtain ⟨v, v', st1, ρ1, ⟨h1, _⟩, _⟩ := he; cases h1
              | outgrown => exact he.elim
            · cases hdc
          | false =>
            obtain ⟨ρg, wg, ag, hgf, hgS⟩ := hgh
            unfold doCall at hdc
            split at hdc
            · rename_i g args ht
              obtain ⟨hcb, hok⟩ := hcall _ _ _ _ _ hdc
              obtain ⟨vs', hvs, hrun⟩ := run_callOp (w := w) hc (hst.given G T ho hc) ht hcb
              obtain ⟨vs2, hvs2, _⟩ := run_callOp (w := wg) hc (given_of hc hgf) ht hcb
              rw [hrun]
              refine ⟨fun h => absurd h (by rw [hF.depth]; simp), ?_⟩
              refine (hok rfl (n - 1) (meet ρ ρg) w vs' (hvs.meet hvs2) ((hst.meet G T hall hgS).fl _)).mono fun e w1 he => ?_
              cases e with
              | returned v' =>
                obtain ⟨v, st1, ρ1, ⟨h1, rfl⟩, h2, h3, h4⟩ := he
                obtain rfl := Out.ret.inj h1
                have hh : (sts (i + 1)).h = st1.h := by rw [← hst2]; rfl
                have hfl : (sts i).h.length ≤ st1.fl := by
                  rw [← hfp] at hbad
                  simpa using hbad
                obtain ⟨ρ', H', hd⟩ := did_call G T hf0 hst hall hwn hbad hgS hh hfl h2 h3 h4
                exact hnext hd
              | panicked chain => obtain ⟨v, v', st1, ρ1, ⟨h1, _⟩, _⟩ := he; cases h1
              | outgrown => exact he.elim
            · cases hdc
        · cases hop
      · rename_i hne
        exact absurd rfl (hne f x)
    · have hnc : ∀ f x, r.op ≠ .call f x := fun f x e => hcl ⟨f, x, e⟩
      have hs : step r.op (ev (frs i)) (sts i) = some (.val (vs i), sts (i + 1)) ∧ (fps i) = { fpOf r.op (ev (frs i)) (sts i) with al := (sts (i + 1)).h.length != (sts i).h.length } := by
        unfold opD at hop
        split at hop
        · rename_i f x heq; exact absurd heq (hnc f x)
        · split at hop
          · rename_i v2 st2 h1
            simp only [Option.some.injEq, Prod.mk.injEq] at hop
            obtain ⟨rfl, rfl, h2⟩ := hop
            exact ⟨h1, h2.symm⟩
          · cases hop
      obtain ⟨ρ', v', w', H', hrun, hd⟩ := did_step G T hf0 hst ho hc hnc hs.1 (by rw [hs.2]) (by rw [hs.2]) (by rw [hs.2]; exact fpOf_bad.1)
      exact uponIn_step hrun (hnext hd)

theorem edges_back {ops : Array Oper} (h : edgesOk ops = true) {k : Nat} {o : Oper} (ho : ops[k]? = some o) : ∀ e ∈ o.after, Region.binds .any e = true → e.on < k := by
  have hk : k < ops.size := (Array.getElem?_eq_some_iff.1 ho).1
  have := List.all_eq_true.1 h k (List.mem_range.2 hk)
  rw [ho] at this
  intro e he hb
  simpa [hb] using Array.all_eq_true_iff_forall_mem.1 this e he

theorem stages {F : Fence} (hF : Open F) {n : Nat} {Q' : Exit → Act → World → Prop} (hcall : CallsOkD F P B call) (G : Reg P nt ops l call frs sts fps vs) (hf0 : Full ρ0 (sts 0).h) (hgh : ∀ j, j ≤ ops.size → ∃ ρg wg ag, FRel D ρg nt (frs j) ag ∧ SRel B ρg wg (sts j))
    (hQ : ∀ a w ρ H, Stage D B nt ops l frs sts fps ρ0 w0 (fun k => k < ops.size) a w ρ H → Q' .normal a w) : ∀ (fuel : Nat) (listed : Array Bool) (a : Act) (w : World) (ρ : RM) (H : Nat → O), listed.size = ops.size →
    ((List.range ops.size).filter fun k => !listed.getD k false).length ≤ fuel → (∀ x y, listed.getD x false = true → anc ops x y → listed.getD y false = true) →
    Stage D B nt ops l frs sts fps ρ0 w0 (fun k => listed.getD k false = true) a w ρ H → wpAnyIn F n P .any ops Q' fuel listed a w := by
  -- where nothing is ready all has been taken
  have hdone : ∀ (listed : Array Bool) (a : Act) (w : World) (ρ : RM) (H : Nat → O), listed.size = ops.size → Region.ready .any ops listed = [] → Stage D B nt ops l frs sts fps ρ0 w0 (fun k => listed.getD k false = true) a w ρ H → Q' .normal a w := by
    intro listed a w ρ H hsz hrd hst
    have hall : ∀ k, k < ops.size → listed.getD k false = true := by
      intro k
      induction k using Nat.strongRecOn with
      | ind k ih =>
        intro hk
        refine Classical.byContradiction fun hn => ?_
        have hko : ops[k]? = some ops[k] := by simp [hk]
        have : k ∈ Region.ready .any ops listed := mem_ready.2 ⟨by
          have : k < listed.size := by rw [hsz]; exact hk
          simp [Array.getD_eq_getD_getElem?, this] at hn ⊢
          exact hn, _, hko, fun e he hb => ih e.on (edges_back G.edges hko e he hb) (Nat.lt_trans (edges_back G.edges hko e he hb) hk)⟩
        rw [hrd] at this
        cases this
    have heq : (fun k => listed.getD k false = true) = fun k => k < ops.size := by
      funext k
      refine propext ⟨fun h => ?_, hall k⟩
      refine Classical.byContradiction fun hn => ?_
      have : listed.size ≤ k := by omega
      simp [Array.getD_eq_getD_getElem?, Array.getElem?_eq_none this] at h
    rw [heq] at hst
    exact hQ a w ρ H hst
  intro fuel
  induction fuel with
  | zero =>
    intro listed a w ρ H hsz hfu hdn hst
    have hrd : Region.ready .any ops listed = [] := by
      refine List.eq_nil_iff_forall_not_mem.2 fun k hk => ?_
      obtain ⟨h1, o, ho, _⟩ := mem_ready.1 hk
      have hk' : k < ops.size := (Array.getElem?_eq_some_iff.1 ho).1
      have h0 : ((List.range ops.size).filter fun k => !listed.getD k false) = [] := List.length_eq_zero_iff.1 (by omega)
      have := List.filter_eq_nil_iff.1 h0 k (List.mem_range.2 hk')
      have hs : k < listed.size := by rw [hsz]; exact hk'
      simp [Array.getD_eq_getD_getElem?, hs] at this h1
      rw [h1] at this; cases this
    exact ⟨hrd, hdone listed a w ρ H hsz hrd hst⟩
  | succ fuel ih =>
    intro listed a w ρ H hsz hfu hdn hst
    refine ⟨fun hrd => hdone listed a w ρ H hsz hrd hst, fun i hi => ?_⟩
    obtain ⟨h1, o, ho, hedge⟩ := mem_ready.1 hi
    have hi' : i < ops.size := (Array.getElem?_eq_some_iff.1 ho).1
    have hs : i < listed.size := by rw [hsz]; exact hi'
    have hno : listed.getD i false = false := by simp [Array.getD_eq_getD_getElem?, hs] at h1 ⊢; exact h1
    have T : Taken ops (fun k => listed.getD k false = true) i := by
      refine ⟨hi', by rw [hno]; simp, fun j hj => ?_, hdn⟩
      obtain ⟨e, he, hb, h2⟩ := before_spec ho hj
      have hl := hedge e he hb
      rcases h2 with rfl | h2
      · exact hl
      · exact hdn e.on j hl h2
    have hset : ∀ k, (listed.setIfInBounds i true).getD k false = true ↔ (listed.getD k false = true ∨ k = i) := fun k => by
      by_cases hk : k = i
      · subst hk; simp [Array.getD_eq_getD_getElem?, hs]
      · rw [getD_set_ne false (Ne.symm hk)]; simp [hk]
    refine stage_op hF hcall G T hf0 hst (hgh i (Nat.le_of_lt hi')) fun a' w' ρ' H' hst' => ?_
    refine ih _ a' w' ρ' H' (by simp [hsz]) ?_ ?_ ?_
    · have hsub : ((List.range ops.size).filter fun k => !(listed.setIfInBounds i true).getD k false) = ((List.range ops.size).filter fun k => !listed.getD k false).filter fun k => k != i := by
        rw [List.filter_filter]
        refine List.filter_congr fun k _ => ?_
        have := hset k
        by_cases hk : k = i
        · subst hk; simp [this.2 (.inr rfl)]
        · rw [getD_set_ne false (Ne.symm hk)]; simp [hk]
      rw [hsub]
      have hmem : i ∈ (List.range ops.size).filter fun k => !listed.getD k false := List.mem_filter.2 ⟨List.mem_range.2 hi', by rw [hno]; rfl⟩
      have := (List.length_filter_lt_length_iff_exists (p := fun k => k != i)).2 ⟨i, hmem, by simp⟩
      omega
    · intro x y hx hxy
      rw [hset] at hx ⊢
      rcases hx with hx | rfl
      · exact .inl (hdn x y hx hxy)
      · exact .inl (T.up y hxy)
    · have : (fun k => (listed.setIfInBounds i true).getD k false = true) = fun k => listed.getD k false = true ∨ k = i := by funext k; exact propext (hset k)
      rw [this]; exact hst'

theorem drawOk {F : Fence} (hF : Open F) (hm : P.follows .mixedOrders = true) {B : Nat} : DrawOk F P B CallKept := by
  intro call hcall hk D n nt id ops l fr st e fr' st' a w ρ Q' hl hr hf hS hQ
  obtain ⟨frs, sts, fps, vs, G, e1, e2, e3, e4⟩ := Reg.of hl hr hk
  refine wpIn_region_any hm ?_
  have hno : ∀ k, (Array.replicate ops.size false).getD k false = false := fun k => by
    rw [Array.getD_eq_getD_getElem?]
    by_cases h : k < ops.size
    · simp [h]
    · rw [Array.getElem?_eq_none (by simp; omega)]; rfl
  have hS' : SRel B ρ { w with drawn := w.drawn + 1 } st := ⟨⟨hS.mem.base, fun id l h => (hS.mem.rel id l h).same rfl, hS.mem.ro, hS.mem.own, hS.mem.sep⟩, hS.full⟩
  have hran : RanW B ρ ρ w { w with drawn := w.drawn + 1 } st st := ⟨RM.le_refl ρ, rfl, rfl, rfl, Nat.le_refl _, fun _ _ => rfl, fun _ _ _ => rfl, Nat.le_refl _, Nat.le_refl _, fun id l h k => by rw [h] at k; cases k⟩
  refine stages (D := D) hF hcall G (ρ0 := ρ) (w0 := w) (B := B) (by rw [e2]; exact hS.full) (G.ghost hF hcall (by rw [e1]; exact hf) (by rw [e2]; exact hS)) (fun a' w' ρ' H hst => ?_) ops.size _ a _ ρ (hp st.h) (by simp) ?_ (fun x y h => by rw [hno] at h; cases h) ?_
  · have hfr : FRel D ρ' nt fr' a' := ⟨hst.tsize, fun t => by
      rw [← e3]
      exact hst.slot t ops.size (Nat.le_refl _) fun k r hk _ => ⟨fun h => h, fun h => h⟩, hst.defers⟩
    have hfull : Full ρ' st'.h := fun id lo hid => by
      rw [← e4]
      rcases hst.dom id lo hid with ⟨lo0, h0⟩ | ⟨k, hk', _, _, h4⟩
      · have := hS.full id lo0 h0
        rw [← e2] at this
        exact Nat.lt_of_lt_of_le this (G.mono (Nat.zero_le _) (Nat.le_refl _)).len
      · exact Nat.lt_of_lt_of_le h4 (G.mono (by omega) (Nat.le_refl _)).len
    have hmem : WRel B ρ' w' (hp st'.h) := hst.mem.congr fun id lo hid => by
      rw [← e4]
      exact hst.blk id lo ops.size (Nat.le_refl _) hid (by rw [e4]; exact hfull id lo hid) fun k hk _ _ => ⟨fun h => h, fun h => h⟩
    have hw : RanW B ρ ρ' w w' st st' := by
      have h0 := G.mono (i := 0) (j := ops.size) (Nat.zero_le _) (Nat.le_refl _)
      have := hst.ran (sts ops.size) h0.fl h0.len fun k hk _ => ⟨(G.mono (i := k + 1) (by omega) (Nat.le_refl _)).fl, (G.mono (i := k + 1) (by omega) (Nat.le_refl _)).len⟩
      rw [e2, e4] at this
      exact this
    refine hQ ρ' a' w' hfr ⟨hmem, hfull⟩ ⟨hw, fun id lo hid hn => ?_⟩
    rcases hst.dom id lo hid with ⟨lo0, h0⟩ | ⟨k, hk', _, h3, _⟩
    · rw [hn] at h0; cases h0
    · rw [← e2]
      exact Nat.le_trans (G.mono (i := 0) (j := k) (Nat.zero_le _) (by omega)).len h3
  · exact Nat.le_trans (List.length_filter_le _ _) (by simp)
  · refine ⟨hS'.mem, hf.size, hf.defers, fun sF h1 h2 _ => ?_, fun t j hj hc => ?_, fun id lo j hj hid hlt hc => ?_, fun id lo hid => .inl ⟨lo, hid⟩, fun k _ hk => by rw [hno] at hk; cases hk⟩
    · rw [e2] at h1 h2 ⊢
      exact ⟨hran.le, hran.os, hran.tape, hran.output, hran.size, hran.below, fun k hk hid => rfl, h1, h2, fun id l h k => by rw [h] at k; cases k⟩
    · have : get (frs j) t = get (frs 0) t := G.slotStable (Nat.zero_le _) hj fun k r _ hkj hk hd => by
        have := (hc k r hk hd).2 hkj
        rw [hno] at this; cases this
      rw [this, e1]
      exact hf.rel t
    · have hid0 : id < (sts 0).h.length := by rw [e2]; exact hS.full id lo hid
      rw [← e2]
      refine (G.stable (Nat.zero_le _) hj hid0 fun k _ hkj => ?_).symm
      have hlk : id < (sts k).h.length := Nat.lt_of_lt_of_le hid0 (G.mono (Nat.zero_le _) (by omega)).len
      have hnot : ¬ (id ∈ (fps k).w ∨ (fps k).bad = true) := fun hk => by
        have := (hc k (by omega) hlk hk).2 hkj
        rw [hno] at this; cases this
      simp only [not_or, Bool.not_eq_true] at hnot
      exact hnot

end
end Go.Ai
