/- One step of the machine, whatever the operation. -/
import Derived.Test.YtdbkhecnkhjhpaaAi13
namespace Go.Ai
open Go.RowKit
set_option linter.unusedSimpArgs false
set_option linter.unusedVariables false
variable {P : Program} {ρ : RM} {w : World}

theorem eqAgg_ok {sh : List (Option IntKind)} {neg : Bool} {t : TypeId} {D : TypeDesc} {X Y : Operand} {x y x' y' : Value} {a b : List Value} (hD : P.underlying t = some D) (hag : isAggD D = true) (hsh : shapeC P 8 t = some sh) (hg : P.eqGuardType P.depth t = false)
    (ha : keyCells sh true x = some a) (hb : keyCells sh true y = some b) (hx : VRel ρ x x') (hy : VRel ρ y y') :
    (do eqGuard (if neg then .neq else .eql) t X Y x' y'; binOp (if neg then .neq else .eql) t x' y' : Sem Value).run P w = .ok (.bool (neg != eqCells a b)) w := by
  obtain rfl := key_same ha hx
  obtain rfl := key_same hb hy
  obtain ⟨h1, h2, h3, h4⟩ := keyCells_iff ha
  obtain ⟨k1, k2, k3, k4⟩ := keyCells_iff hb
  obtain ⟨xs, rfl⟩ := h3 rfl
  obtain ⟨ys, rfl⟩ := k3 rfl
  have hfx : Fit D sh (.agg xs) := by unfold Fit; rw [if_pos hag]; exact ⟨xs, rfl, by rw [h1] at h2; exact h2⟩
  have hfy : Fit D sh (.agg ys) := by unfold Fit; rw [if_pos hag]; exact ⟨ys, rfl, by rw [k1] at k2; exact k2⟩
  have heq : (Op.equal t (.agg xs) (.agg ys)).run P w = .ok (eqCells a b) w := by
    rw [h1, k1]
    exact run_equal_shape 8 t D sh 10000 _ _ hD hsh (by omega) hfx hfy
  cases neg <;> simp [eqGuard, Sem.run_bind, hg, binOp, heq]

theorem parts_struct {places : List (Nat × Nat)} {e e' : Operand → Value} : ∀ {l : List (Nat × Operand)} {qs : List (Nat × Nat × Operand)}, (∀ x ∈ l, VRel ρ (e x.2) (e' x.2)) →
    l.mapM (fun p => (places[p.1]?).map fun q => (q.1, q.2, p.2)) = some qs → Parts ρ (fun i => places[i]?) (qs.map fun p => (p.1, p.2.1, e p.2.2)) (l.map fun p => (p.1, e' p.2)) := by
  intro l
  induction l with
  | nil => intro qs _ h; simp at h; subst h; exact .nil
  | cons p l ih =>
    intro qs hx h
    simp only [List.mapM_cons, bind, Option.bind_eq_some_iff, Option.map_eq_some_iff, pure, Option.some.injEq] at h
    obtain ⟨q, ⟨pl, h1, rfl⟩, qs', h2, rfl⟩ := h
    exact .cons h1 (hx p (by simp)) (ih (fun x h => hx x (by simp [h])) h2)
theorem parts_array {size : Nat} {e e' : Operand → Value} : ∀ {l : List (Nat × Operand)}, (∀ x ∈ l, VRel ρ (e x.2) (e' x.2)) →
    Parts ρ (fun i => some (i * size, size)) ((l.map (cpart size)).map fun p => (p.1, p.2.1, e p.2.2)) (l.map fun p => (p.1, e' p.2)) := by
  intro l
  induction l with
  | nil => intro _; exact .nil
  | cons p l ih => intro hx; exact .cons rfl (hx p (by simp)) (ih fun x h => hx x (by simp [h]))

theorem Sees.at {h : List O} {bs : List Nat} {b : Nat} {L : Loc} (hs : Sees ρ w h bs) (hb : b ∈ bs) (hL : ρ b = some L) : ∀ o, h[b]? = some o → CRel ρ w L o := fun o ho => by
  obtain ⟨L', hL', hc⟩ := hs b hb o ho
  obtain rfl : L = L' := Option.some.inj (hL.symm.trans hL')
  exact hc
theorem Sees.left {h : List O} {a b : List Nat} (hs : Sees ρ w h (a ++ b)) : Sees ρ w h a := fun k hk => hs k (List.mem_append.2 (.inl hk))
theorem Sees.right {h : List O} {a b : List Nat} (hs : Sees ρ w h (a ++ b)) : Sees ρ w h b := fun k hk => hs k (List.mem_append.2 (.inr hk))

/-- What is asked of the operands. -/
structure Given (ρ : RM) (o : Op) (e e' : Operand → Value) : Prop where
  rel : ∀ x ∈ o.operands, VRel ρ (e x) (e' x)
  const : ∀ v, e' (.const v) = v
  constE : ∀ v, e (.const v) = v

theorem step_ok {o : Oper} {r : ROp} {e e' : Operand → Value} {st st' : St} {v : Value} (hc : cop P o = some r) (hg : Given ρ o.op e e') (hd : st'.h.length ≠ st.h.length → Dom ρ st.h) (hsee : Sees ρ w st.h ((fpOf r e st).r ++ (fpOf r e st).w)) (hs : step r e st = some (.val v, st')) :
    StepOk ρ w st st' v (fpOf r e st).w ((execOp e' o).run P w) := by
  have hstill : ∀ {v0 v' : Value} {s : Sem Value}, s.run P w = .ok v' w → VRel ρ v0 v' → StepOk ρ w st st v0 (fpOf r e st).w ((do pure (Next.value (← s)) : Sem Next).run P w) := fun h1 h2 => .still (ok_pure h1 h2)
  unfold cop at hc
  split at hc
  · cases hc
  unfold execOp
  cases hop : o.op <;> simp only [hop] at hc hg ⊢
  all_goals first | (cases hc; done) | skip
  case move x =>
    obtain rfl := Option.some.inj hc
    simp only [step, Option.some.injEq, Prod.mk.injEq, Res.val.injEq] at hs
    obtain ⟨rfl, rfl⟩ := hs
    exact .still ⟨ρ, e' x, w, .inl rfl, Eff.refl ρ w _, hg.rel x (by simp [Op.operands])⟩
  case assign x =>
    obtain rfl := Option.some.inj hc
    simp only [step, Option.some.injEq, Prod.mk.injEq, Res.val.injEq] at hs
    obtain ⟨rfl, rfl⟩ := hs
    exact .still ⟨ρ, e' x, w, .inl rfl, Eff.refl ρ w _, hg.rel x (by simp [Op.operands])⟩
  case pick c a b =>
    obtain rfl := Option.some.inj hc
    simp only [step] at hs
    split at hs
    · rename_i t ht
      simp only [Option.some.injEq, Prod.mk.injEq, Res.val.injEq] at hs
      obtain ⟨rfl, rfl⟩ := hs
      have hcv := hg.rel c (by simp [Op.operands])
      rw [ht] at hcv
      have := hcv.bool
      refine .still ⟨ρ, if t then e' a else e' b, w, .inl (by simp [Sem.run_bind, this, asBool]), Eff.refl ρ w _, ?_⟩
      cases t
      · exact hg.rel b (by simp [Op.operands])
      · exact hg.rel a (by simp [Op.operands])
    · cases hs
  case alloc elem =>
    simp only [Option.map_eq_some_iff] at hc
    obtain ⟨z, hz, rfl⟩ := hc
    simp only [step, Option.some.injEq, Prod.mk.injEq, Res.val.injEq] at hs
    obtain ⟨rfl, rfl⟩ := hs
    exact .made rfl (new_ok (hd (by simp)) hz)
  case box elem x =>
    obtain rfl := Option.some.inj hc
    simp only [step, Option.some.injEq, Prod.mk.injEq, Res.val.injEq] at hs
    obtain ⟨rfl, rfl⟩ := hs
    exact .made rfl (box_ok (hd (by simp)) (hg.rel x (by simp [Op.operands])))
  case build t parts =>
    have hparts : ∀ x ∈ parts.toList, VRel ρ (e x.2) (e' x.2) := fun x hx => hg.rel x.2 (by simp [Op.operands]; exact ⟨x.1, by simpa using hx⟩)
    unfold cbuild at hc
    split at hc
    · rename_i zero fields hz hu
      split at hc
      · rename_i places hp
        simp only [Option.map_eq_some_iff] at hc
        obtain ⟨qs, hq, rfl⟩ := hc
        simp only [step, Option.map_eq_some_iff, Prod.mk.injEq, Res.val.injEq] at hs
        obtain ⟨v0, ⟨l, hl, rfl⟩, rfl, rfl⟩ := hs
        exact .still (build_struct_ok hz hu hp (by simpa using parts_struct hparts hq) hl)
      · cases hc
    · rename_i zero n elem hz hu
      simp only [Option.map_eq_some_iff] at hc
      obtain ⟨size, hsz, rfl⟩ := hc
      simp only [step, Option.map_eq_some_iff, Prod.mk.injEq, Res.val.injEq] at hs
      obtain ⟨v0, ⟨l, hl, rfl⟩, rfl, rfl⟩ := hs
      exact .still (build_array_ok hz hu hsz (by simpa using parts_array hparts) hl)
    · cases hc
  case buildSlice t len parts =>
    have hparts : ∀ x ∈ parts.toList, VRel ρ (e x.2) (e' x.2) := fun x hx => hg.rel x.2 (by simp [Op.operands]; exact ⟨x.1, by simpa using hx⟩)
    split at hc
    · rename_i elem hu
      split at hc
      · rename_i size z hsz hz
        split at hc
        · rename_i hcond
          simp only [Bool.and_eq_true, decide_eq_true_eq, Bool.or_eq_true, beq_iff_eq, bne_iff_ne, ne_eq, List.isEmpty_iff, Array.isEmpty_iff] at hcond
          obtain ⟨⟨⟨c1, c2⟩, c3⟩, c4⟩ := hcond
          obtain rfl := Option.some.inj hc
          simp only [step] at hs
          split at hs
          · rename_i hl0
            subst hl0
            simp only [Option.some.injEq, Prod.mk.injEq, Res.val.injEq] at hs
            obtain ⟨rfl, rfl⟩ := hs
            have hp0 : parts = #[] := by rcases c4 with h | h; exact absurd rfl h; exact h
            subst hp0
            exact .still (by simpa using buildSlice_none (ρ := ρ) (w := w) (h := st.h) hu hsz)
          · rename_i hl0
            simp only [bind, Option.bind_eq_some_iff, Option.some.injEq, Prod.mk.injEq, Res.val.injEq] at hs
            obtain ⟨l, hl, rfl, rfl⟩ := hs
            exact .made rfl (buildSlice_ok (hd (by simp)) hu hsz hz c3 c1 c2 hl0 (by simpa using parts_array hparts) hl)
        · cases hc
      · cases hc
    · cases hc
  case load t a =>
    simp only [Option.map_eq_some_iff] at hc
    obtain ⟨n, hn, rfl⟩ := hc
    have hse : Sees ρ w st.h (blk (e a)) := by simpa [fpOf] using hsee
    have hav := hg.rel a (by simp [Op.operands])
    cases n with
    | none =>
      simp only [step] at hs
      split at hs
      · rename_i b i hea
        rw [hea] at hav hse
        simp only [Option.map_eq_some_iff, Prod.mk.injEq, Res.val.injEq] at hs
        obtain ⟨v0, hv0, rfl, rfl⟩ := hs
        obtain ⟨L, hL, _⟩ := hav.inv_ptr
        obtain ⟨v', h1, h2⟩ := load_ok (P := P) (w := w) hn hL (hse.at (by simp [blk]) hL) hav hv0
        exact hstill h1 h2
      · cases hs
    | some n =>
      simp only [step] at hs
      split at hs
      · rename_i b i hea
        rw [hea] at hav hse
        simp only [Option.map_eq_some_iff, Prod.mk.injEq, Res.val.injEq] at hs
        obtain ⟨v0, hv0, rfl, rfl⟩ := hs
        obtain ⟨L, hL, _⟩ := hav.inv_ptr
        obtain ⟨v', h1, h2⟩ := load_ok (P := P) (w := w) hn hL (hse.at (by simp [blk]) hL) hav (by simpa using hv0)
        exact hstill h1 h2
      · cases hs
  case store t a x =>
    simp only [Option.map_eq_some_iff] at hc
    obtain ⟨n, hn, rfl⟩ := hc
    have hse : Sees ρ w st.h (blk (e a)) := by simpa [fpOf] using hsee
    have hav := hg.rel a (by simp [Op.operands])
    simp only [step] at hs
    split at hs
    · rename_i b i hea
      rw [hea] at hav hse
      simp only [bind, Option.ite_none_right_eq_some, Option.bind_eq_some_iff, Option.some.injEq, Prod.mk.injEq, Res.val.injEq] at hs
      obtain ⟨hlen, h', hw, rfl, rfl⟩ := hs
      obtain ⟨L, hL, _⟩ := hav.inv_ptr
      have := store_ok (P := P) (w := w) hn hL (hse.at (by simp [blk]) hL) hav (hg.rel x (by simp [Op.operands])) hlen hw
      exact .wrote (wrN_own hw).2 (by simp [fpOf, hea, blk]) (wrN_own hw).1 this
    · cases hs
  case nilCheck x =>
    obtain rfl := Option.some.inj hc
    have hxv := hg.rel x (by simp [Op.operands])
    simp only [step] at hs
    split at hs
    · rename_i a hea
      rw [hea] at hxv
      simp only [Option.some.injEq, Prod.mk.injEq, Res.val.injEq] at hs
      obtain ⟨rfl, rfl⟩ := hs
      generalize e' x = x' at hxv ⊢
      cases hxv with
      | flat h1 _ => simp [flat] at h1
      | ptr hl => exact .still ⟨ρ, _, w, .inl rfl, Eff.refl ρ w _, .ptr hl⟩
    · cases hs
  case binOp op t x y yt =>
    have hxv := hg.rel x (by simp [Op.operands])
    have hyv := hg.rel y (by simp [Op.operands])
    unfold cbin at hc
    split at hc
    · obtain rfl := Option.some.inj hc
      simp only [step, Option.map_eq_some_iff, Prod.mk.injEq, Res.val.injEq] at hs
      obtain ⟨v0, hv0, rfl, rfl⟩ := hs
      obtain ⟨v', h1, h2⟩ := binV_ok (P := P) (w := w) (t := t) (X := x) (Y := y) hv0 hxv hyv
      exact hstill h1 h2
    · obtain rfl := Option.some.inj hc
      simp only [step, Option.map_eq_some_iff, Prod.mk.injEq, Res.val.injEq] at hs
      obtain ⟨v0, hv0, rfl, rfl⟩ := hs
      obtain ⟨v', h1, h2⟩ := binV_ok (P := P) (w := w) (t := t) (X := x) (Y := y) hv0 hxv hyv
      exact hstill h1 h2
    · rename_i hu
      obtain rfl := Option.some.inj hc
      simp only [step, Option.map_eq_some_iff, Prod.mk.injEq, Res.val.injEq] at hs
      obtain ⟨v0, hv0, rfl, rfl⟩ := hs
      obtain ⟨v', h1, h2⟩ := binBV_ok (P := P) (w := w) (t := t) (X := x) (Y := y) hu hv0 hxv hyv
      exact hstill h1 h2
    · rename_i hu
      split at hc
      · cases hc
      · rename_i hgd
        have hgd' : P.eqGuardType P.depth t = false := by simpa using hgd
        split at hc
        · rename_i sh hsh
          obtain rfl := Option.some.inj hc
          simp only [step, bind, Option.bind_eq_some_iff, Option.some.injEq, Prod.mk.injEq, Res.val.injEq] at hs
          obtain ⟨a, ha, b, hb, rfl, rfl⟩ := hs
          exact hstill (eqAgg_ok (neg := false) (X := x) (Y := y) hu rfl hsh hgd' ha hb hxv hyv) (flat_bool _)
        · rename_i sh hsh
          obtain rfl := Option.some.inj hc
          simp only [step, bind, Option.bind_eq_some_iff, Option.some.injEq, Prod.mk.injEq, Res.val.injEq] at hs
          obtain ⟨a, ha, b, hb, rfl, rfl⟩ := hs
          exact hstill (eqAgg_ok (neg := true) (X := x) (Y := y) hu rfl hsh hgd' ha hb hxv hyv) (flat_bool _)
        · cases hc
    · rename_i hu
      split at hc
      · cases hc
      · rename_i hgd
        have hgd' : P.eqGuardType P.depth t = false := by simpa using hgd
        split at hc
        · rename_i sh hsh
          obtain rfl := Option.some.inj hc
          simp only [step, bind, Option.bind_eq_some_iff, Option.some.injEq, Prod.mk.injEq, Res.val.injEq] at hs
          obtain ⟨a, ha, b, hb, rfl, rfl⟩ := hs
          exact hstill (eqAgg_ok (neg := false) (X := x) (Y := y) hu rfl hsh hgd' ha hb hxv hyv) (flat_bool _)
        · rename_i sh hsh
          obtain rfl := Option.some.inj hc
          simp only [step, bind, Option.bind_eq_some_iff, Option.some.injEq, Prod.mk.injEq, Res.val.injEq] at hs
          obtain ⟨a, ha, b, hb, rfl, rfl⟩ := hs
          exact hstill (eqAgg_ok (neg := true) (X := x) (Y := y) hu rfl hsh hgd' ha hb hxv hyv) (flat_bool _)
        · cases hc
    · split at hc
      · rename_i k hk
        obtain rfl := Option.some.inj hc
        simp only [step, Option.map_eq_some_iff, Prod.mk.injEq, Res.val.injEq] at hs
        obtain ⟨_, ⟨b, hb, rfl⟩, rfl, rfl⟩ := hs
        exact hstill (eqNil_ok (neg := false) (X := x) hk hb hxv e' hg.const) (flat_bool _)
      · rename_i k hk
        obtain rfl := Option.some.inj hc
        simp only [step, Option.map_eq_some_iff, Prod.mk.injEq, Res.val.injEq] at hs
        obtain ⟨_, ⟨b, hb, rfl⟩, rfl, rfl⟩ := hs
        exact hstill (eqNil_ok (neg := true) (X := x) hk hb hxv e' hg.const) (flat_bool _)
      · cases hc
  case unOp op t x =>
    obtain rfl := Option.some.inj hc
    simp only [step, Option.map_eq_some_iff, Prod.mk.injEq, Res.val.injEq] at hs
    obtain ⟨v0, hv0, rfl, rfl⟩ := hs
    obtain ⟨v', h1, h2⟩ := unV_ok (P := P) (w := w) hv0 (hg.rel x (by simp [Op.operands]))
    exact hstill h1 h2
  case convert src dst x =>
    split at hc
    · rename_i ks k hsrc hdst
      obtain rfl := Option.some.inj hc
      have hxv := hg.rel x (by simp [Op.operands])
      simp only [step] at hs
      split at hs
      · rename_i kv n hx
        rw [hx] at hxv
        simp only [Option.some.injEq, Prod.mk.injEq, Res.val.injEq] at hs
        obtain ⟨rfl, rfl⟩ := hs
        exact hstill (conv_ok hsrc hdst hxv) (flat_int _ _)
      · cases hs
    · cases hc
  case makeInterface t x =>
    have hxv := hg.rel x (by simp [Op.operands])
    split at hc
    · cases hc
    · cases hc
    · rename_i D hno hD
      obtain rfl := Option.some.inj hc
      simp only [step, Option.some.injEq, Prod.mk.injEq, Res.val.injEq] at hs
      obtain ⟨rfl, rfl⟩ := hs
      refine hstill (v' := .iface t (e' x)) ?_ (.iface hxv)
      cases D <;> first
        | (exact absurd rfl (hno _))
        | (simp [Instr.makeInterface, Sem.run_bind, run_underlying hD])
  case makeFunc fn first captured =>
    cases fn <;> simp only at hc
    all_goals first | (cases hc; done) | skip
    rename_i f
    split at hc
    · rename_i hfirst
      obtain rfl := Option.some.inj hc
      simp only [step, Option.some.injEq, Prod.mk.injEq, Res.val.injEq] at hs
      obtain ⟨rfl, rfl⟩ := hs
      have hf0 : first = #[] := by simpa using hfirst
      subst hf0
      have hl : LRel ρ (captured.toList.map e) (captured.toList.map e') := LRel.map captured.toList fun x hx => hg.rel x (by simp [Op.operands]; simpa using hx)
      refine hstill (v' := .func (.func f) #[] (captured.toList.map e').toArray) ?_ (.func hl.1 hl.2)
      simp [Instr.makeFunc]
      apply Array.ext'
      simp
    · cases hc
  case makeMap t res =>
    cases res with
    | some _ => cases hc
    | none =>
      obtain rfl := Option.some.inj hc
      simp only [step, Option.some.injEq, Prod.mk.injEq, Res.val.injEq] at hs
      obtain ⟨rfl, rfl⟩ := hs
      exact mkMap_ok (hd (by simp))
  case makeSlice t l c =>
    split at hc
    · rename_i elem hu
      split at hc
      · rename_i size z b hsz hz hb
        split at hc
        · rename_i hcond
          simp only [Bool.and_eq_true, decide_eq_true_eq, beq_iff_eq] at hcond
          obtain rfl := Option.some.inj hc
          have hlv := hg.rel l (by simp [Op.operands])
          have hcv := hg.rel c (by simp [Op.operands])
          simp only [step] at hs
          split at hs
          · rename_i ln cn hl hcn
            split at hs
            · rename_i hcd
              rw [hl] at hlv
              rw [hcn] at hcv
              simp only [Option.some.injEq, Prod.mk.injEq, Res.val.injEq] at hs
              obtain ⟨rfl, rfl⟩ := hs
              rw [hlv.int, hcv.int]
              exact .made rfl (makeSlice_ok (hd (by simp)) hu hsz hb hz hcond.2 hcond.1 hcd.1 hcd.2.1 hcd.2.2.1 hcd.2.2.2)
            · cases hs
          · cases hs
        · cases hc
      · cases hc
    · cases hc
  case slice t x lo hi mx =>
    split at hc
    · rename_i elem hu
      split at hc
      · rename_i size hsz
        split at hc
        · rename_i h0
          obtain rfl := Option.some.inj hc
          have hse : Sees ρ w st.h (blk (e x)) := by simpa [fpOf] using hsee
          simp only [step, Option.map_eq_some_iff, Prod.mk.injEq, Res.val.injEq] at hs
          obtain ⟨v0, hv0, rfl, rfl⟩ := hs
          have horel : ∀ (y : Option Operand), (∀ o, y = some o → o ∈ Op.operands (.slice t x lo hi mx)) → ORel ρ (y.map e) (y.map e') := fun y hy => by
            cases y with
            | none => trivial
            | some o => exact hg.rel o (hy o rfl)
          exact .still (slice_ok hu hsz hv0 (hg.rel x (by simp [Op.operands])) (horel lo fun o h => by subst h; simp [Op.operands]) (horel hi fun o h => by subst h; simp [Op.operands]) (horel mx fun o h => by subst h; simp [Op.operands]) hse)
        · cases hc
      · cases hc
    · cases hc
  case fieldAddr s x f =>
    split at hc
    · rename_i fields hu
      split at hc
      · rename_i fd hf
        split at hc
        · rename_i n hn
          split at hc
          · rename_i h0
            obtain rfl := Option.some.inj hc
            have hxv := hg.rel x (by simp [Op.operands])
            simp only [step] at hs
            split at hs
            · rename_i b i hx
              rw [hx] at hxv
              simp only [Option.some.injEq, Prod.mk.injEq, Res.val.injEq] at hs
              obtain ⟨rfl, rfl⟩ := hs
              exact .still (faddr_ok hu hf hn h0 hxv)
            · cases hs
          · cases hc
        · cases hc
      · cases hc
    · cases hc
  case field s x f =>
    split at hc
    · rename_i fields hu
      split at hc
      · rename_i fd hf
        simp only [Option.map_eq_some_iff] at hc
        obtain ⟨n, hn, rfl⟩ := hc
        have hxv := hg.rel x (by simp [Op.operands])
        simp only [step] at hs
        split at hs
        · rename_i cs hx
          rw [hx] at hxv
          simp only [Option.map_eq_some_iff, Prod.mk.injEq, Res.val.injEq] at hs
          obtain ⟨v0, hv0, rfl, rfl⟩ := hs
          exact .still (field_ok hu hf hn hxv hv0)
        · cases hs
      · cases hc
    · cases hc
  case indexAddr t x i =>
    have hxv := hg.rel x (by simp [Op.operands])
    have hiv := hg.rel i (by simp [Op.operands])
    split at hc
    · rename_i elem hu
      simp only [Option.map_eq_some_iff] at hc
      obtain ⟨size, hsz, rfl⟩ := hc
      simp only [step] at hs
      split at hs
      · rename_i b o n c k j hx hi
        split at hs
        · rename_i hj
          rw [hx] at hxv
          rw [hi] at hiv
          simp only [Option.some.injEq, Prod.mk.injEq, Res.val.injEq] at hs
          obtain ⟨rfl, rfl⟩ := hs
          exact .still (iaddrS_ok hu hsz hxv hiv hj.1 hj.2)
        · cases hs
      · cases hs
    · rename_i len elem hu
      split at hc
      · simp only [Option.map_eq_some_iff] at hc
        obtain ⟨size, hsz, rfl⟩ := hc
        simp only [step] at hs
        split at hs
        · rename_i b o k j hx hi
          split at hs
          · rename_i hj
            rw [hx] at hxv
            rw [hi] at hiv
            simp only [Option.some.injEq, Prod.mk.injEq, Res.val.injEq] at hs
            obtain ⟨rfl, rfl⟩ := hs
            exact .still (iaddrA_ok hu hsz hxv hiv hj.1 hj.2)
          · cases hs
        · cases hs
      · cases hc
    · cases hc
  case index t x i =>
    have hxv := hg.rel x (by simp [Op.operands])
    have hiv := hg.rel i (by simp [Op.operands])
    split at hc
    · rename_i len elem hu
      split at hc
      · rename_i size n hsz hn
        obtain rfl := Option.some.inj hc
        simp only [step] at hs
        split at hs
        · rename_i cs k j hx hi
          split at hs
          · rename_i hj
            rw [hx] at hxv
            rw [hi] at hiv
            simp only [Option.map_eq_some_iff, Prod.mk.injEq, Res.val.injEq] at hs
            obtain ⟨v0, hv0, rfl, rfl⟩ := hs
            exact .still (indexA_ok hu hsz hn hxv hiv hj.1 hj.2 hv0)
          · cases hs
        · cases hs
      · cases hc
    · cases hc
  case lookup t x k ok =>
    split at hc
    · rename_i key elem hu
      split at hc
      · rename_i sh ag z hk hz
        obtain rfl := Option.some.inj hc
        have hse : Sees ρ w st.h (blk (e x)) := by simpa [fpOf] using hsee
        have hxv := hg.rel x (by simp [Op.operands])
        have hkv := hg.rel k (by simp [Op.operands])
        simp only [step] at hs
        split at hs
        · rename_i b hx
          split at hs
          · rename_i es clock hb
            rw [hx] at hxv hse
            simp only [bind, Option.bind_eq_some_iff, Option.some.injEq, Prod.mk.injEq, Res.val.injEq] at hs
            obtain ⟨f, hf, rfl, rfl⟩ := hs
            obtain ⟨v', h1, h2⟩ := lookup_ok (P := P) (w := w) (ok := ok) hu hk hz hxv hb (hse b (by simp [blk])) hkv hf
            exact hstill h1 h2
          · cases hs
        · cases hs
      · cases hc
    · cases hc
  case mapUpdate t m k x =>
    split at hc
    · rename_i key elem hu
      simp only [Option.map_eq_some_iff] at hc
      obtain ⟨⟨sh, ag⟩, hk, rfl⟩ := hc
      have hse : Sees ρ w st.h (blk (e m)) := by simpa [fpOf] using hsee
      have hmv := hg.rel m (by simp [Op.operands])
      have hkv := hg.rel k (by simp [Op.operands])
      have hxv := hg.rel x (by simp [Op.operands])
      simp only [step] at hs
      split at hs
      · rename_i b hm
        split at hs
        · rename_i es clock hb
          rw [hm] at hmv hse
          simp only [bind, Option.bind_eq_some_iff, Option.some.injEq, Prod.mk.injEq, Res.val.injEq] at hs
          obtain ⟨f, hf, rfl, rfl⟩ := hs
          have := mapUpd_ok (P := P) (w := w) hu hk hmv hb (hse b (by simp [blk])) hkv hxv hf
          have hw : (fpOf (ROp.mapUpd sh ag m k x) e st).w = [b] := by simp [fpOf, hm, blk]
          rw [hw]
          cases f <;> exact this
        · cases hs
      · cases hs
    · cases hc
  case insert t m k x =>
    split at hc
    · rename_i key elem hu
      simp only [Option.map_eq_some_iff] at hc
      obtain ⟨⟨sh, ag⟩, hk, rfl⟩ := hc
      have hse : Sees ρ w st.h (blk (e m)) := by simpa [fpOf] using hsee
      have hmv := hg.rel m (by simp [Op.operands])
      have hkv := hg.rel k (by simp [Op.operands])
      have hxv := hg.rel x (by simp [Op.operands])
      simp only [step] at hs
      split at hs
      · rename_i b hm
        split at hs
        · rename_i es clock hb
          rw [hm] at hmv hse
          simp only [bind, Option.bind_eq_some_iff, Option.some.injEq, Prod.mk.injEq, Res.val.injEq] at hs
          obtain ⟨f, hf, rfl, rfl⟩ := hs
          have := mapUpd_ok (P := P) (w := w) hu hk hmv hb (hse b (by simp [blk])) hkv hxv hf
          have hw : (fpOf (ROp.mapUpd sh ag m k x) e st).w = [b] := by simp [fpOf, hm, blk]
          rw [hw]
          cases f <;> exact this
        · cases hs
      · cases hs
    · cases hc
  case mapEntry t m k =>
    split at hc
    · rename_i key elem hu
      split at hc
      · rename_i sh ag z hk hz
        obtain rfl := Option.some.inj hc
        have hse : Sees ρ w st.h (blk (e m)) := by simpa [fpOf] using hsee
        have hmv := hg.rel m (by simp [Op.operands])
        have hkv := hg.rel k (by simp [Op.operands])
        simp only [step] at hs
        split at hs
        · rename_i b hm
          split at hs
          · rename_i es clock hb
            rw [hm] at hmv hse
            simp only [bind, Option.bind_eq_some_iff] at hs
            obtain ⟨f, hf, hs⟩ := hs
            have := mapEntry_ok (P := P) (w := w) hu hk hz hmv hb (hse b (by simp [blk])) hkv hf
            have hw : (fpOf (ROp.mapEntry sh ag z m k) e st).w = [b] := by simp [fpOf, hm, blk]
            rw [hw]
            cases f with
            | none =>
              simp only [Option.some.injEq, Prod.mk.injEq, Res.val.injEq] at hs
              obtain ⟨rfl, rfl⟩ := hs
              exact this
            | some p =>
              simp only [Option.some.injEq, Prod.mk.injEq, Res.val.injEq] at hs
              obtain ⟨rfl, rfl⟩ := hs
              exact this
          · cases hs
        · cases hs
      · cases hc
    · cases hc
  case entryStore t m sv x =>
    obtain rfl := Option.some.inj hc
    have hse : Sees ρ w st.h (blk (e m)) := by simpa [fpOf] using hsee
    have hmv := hg.rel m (by simp [Op.operands])
    have hsv := hg.rel sv (by simp [Op.operands])
    have hxv := hg.rel x (by simp [Op.operands])
    simp only [step] at hs
    split at hs
    · rename_i b born hm hsb
      split at hs
      · rename_i es clock hb
        split at hs
        · rename_i i hi
          rw [hm] at hmv hse
          rw [hsb] at hsv
          simp only [Option.some.injEq, Prod.mk.injEq, Res.val.injEq] at hs
          obtain ⟨rfl, rfl⟩ := hs
          have hw : (fpOf (ROp.entryStore m sv x) e st).w = [b] := by simp [fpOf, hm, blk]
          rw [hw]
          exact entryStore_ok hmv hb (hse b (by simp [blk])) hsv hxv hi
        · cases hs
      · cases hs
    · cases hs
  case range t x =>
    split at hc
    · rename_i key elem hu
      obtain rfl := Option.some.inj hc
      have hse : Sees ρ w st.h (blk (e x)) := by simpa [fpOf] using hsee
      have hxv := hg.rel x (by simp [Op.operands])
      simp only [step] at hs
      split at hs
      · rename_i b hx
        split at hs
        · rename_i es clock hb
          rw [hx] at hxv hse
          simp only [Option.some.injEq, Prod.mk.injEq, Res.val.injEq] at hs
          obtain ⟨rfl, rfl⟩ := hs
          exact range_ok (hd (by simp)) hu hxv hb (hse b (by simp [blk]))
        · cases hs
      · cases hs
    · cases hc
  case next it iss =>
    cases iss <;> simp only at hc
    · obtain rfl := Option.some.inj hc
      have hiv := hg.rel it (by simp [Op.operands])
      have hse : Sees ρ w st.h (iterMap st.h (blk (e it))) := fun k hk => hsee k (by simp [fpOf]; exact .inl hk)
      simp only [step] at hs
      split at hs
      · rename_i r b since seen hn
        simp only [Option.some.injEq, Prod.mk.injEq, Res.val.injEq] at hs
        obtain ⟨rfl, rfl⟩ := hs
        obtain ⟨hb, h⟩ := next_ok (P := P) (w := w) (ty := o.type) hn hiv hse
        have hw : (fpOf (ROp.next it) e st).w = [r] := by simp [fpOf, hb]
        rw [hw]
        rcases h with ⟨_, h⟩ | ⟨en, hen, _⟩
        · exact h
        · simp at hen
      · rename_i r b since seen en hn
        simp only [Option.some.injEq, Prod.mk.injEq, Res.val.injEq] at hs
        obtain ⟨rfl, rfl⟩ := hs
        obtain ⟨hb, h⟩ := next_ok (P := P) (w := w) (ty := o.type) hn hiv hse
        have hw : (fpOf (ROp.next it) e st).w = [r] := by simp [fpOf, hb]
        rw [hw]
        rcases h with ⟨h, _⟩ | ⟨en', hen, h⟩
        · cases h
        · simp at hen
          subst hen
          exact h
      · cases hs
    · cases hc
  case entry it =>
    obtain rfl := Option.some.inj hc
    have hiv := hg.rel it (by simp [Op.operands])
    have hse : Sees ρ w st.h (iterMap st.h (blk (e it))) := fun k hk => hsee k (by simp [fpOf]; exact hk)
    simp only [step] at hs
    split at hs
    · rename_i r hit
      split at hs
      · rename_i b since seen stepped hr
        split at hs
        · rename_i es clock hb
          split at hs
          · rename_i hst
            split at hs
            · rename_i stamp hstamp
              split at hs
              · rename_i hp
                simp only [Option.map_eq_some_iff, Prod.mk.injEq, Res.val.injEq] at hs
                obtain ⟨v0, ⟨en, hen, rfl⟩, rfl, rfl⟩ := hs
                rw [hit] at hiv hse
                have e1 : blk (.pointer (some ⟨r, 0, none⟩)) = [r] := rfl
                rw [e1, iterMap_two hr] at hse
                obtain ⟨v', h1, h2⟩ := entry_ok (P := P) (w := w) hiv hr hb hst hstamp hp hen hse
                exact hstill h1 h2
              · cases hs
            · cases hs
          · cases hs
        · cases hs
      · cases hs
    · cases hs
  case typeAssert x xT t ok =>
    cases ok <;> simp only at hc
    · cases hc
    · split at hc
      · cases hc
      · cases hc
      · rename_i D hno hD
        simp only [Option.map_eq_some_iff] at hc
        obtain ⟨z, hz, rfl⟩ := hc
        obtain ⟨rfl, v', h1, h2⟩ := assert_ok (P := P) (w := w) (xT := xT) hD (fun m h => hno m h) hz (hg.rel x (by simp [Op.operands])) rfl hs
        exact hstill h1 h2
  case extract x i =>
    obtain rfl := Option.some.inj hc
    have hxv := hg.rel x (by simp [Op.operands])
    simp only [step] at hs
    split at hs
    · rename_i vs hx
      rw [hx] at hxv
      simp only [Option.map_eq_some_iff, Prod.mk.injEq, Res.val.injEq] at hs
      obtain ⟨v0, hv0, rfl, rfl⟩ := hs
      exact .still (extract_ok hxv hv0)
    · cases hs
  case panic x =>
    obtain rfl := Option.some.inj hc
    simp only [step] at hs
    split at hs
    · simp at hs
    · cases hs
  case call c =>
    obtain ⟨callee, args, argTypes⟩ := c
    have hop2 : ∀ (x : Operand), x ∈ args.toList → VRel ρ (e x) (e' x) := fun x hx => hg.rel x (by simp only [Op.operands, Call.operands]; exact Array.mem_append.2 (.inr (by simpa using hx)))
    cases callee <;> (try simp only at hc)
    case value f =>
      obtain rfl := Option.some.inj hc
      simp [step] at hs
    case invoke _ _ => cases hc
    case builtin b =>
    cases b <;> simp only at hc
    all_goals first | (cases hc; done) | skip
    case len =>
      split at hc
      · rename_i x t hargs htys
        have hx := hop2 x (by rw [hargs]; simp)
        obtain rfl : args = #[x] := Array.toList_inj.1 (by simpa using hargs)
        obtain rfl : argTypes = #[t] := Array.toList_inj.1 (by simpa using htys)
        have hrun : ∀ {v' : Value}, (Builtin.len_ #[t] o.type #[e' x]).run P w = .ok v' w → ((do let d ← resolve e' ⟨.builtin .len, #[x], #[t]⟩ o.type; invoke d.target d.args : Sem Next).run P w) = ((do pure (Next.value (← Builtin.len_ #[t] o.type #[e' x])) : Sem Next).run P w) := fun _ => by simp [resolve, invoke, builtin]
        split at hc
        · rename_i el hu
          obtain rfl := Option.some.inj hc
          simp only [step] at hs
          split at hs
          · rename_i a n cp _ hex
            rw [hex] at hx
            simp only [Option.some.injEq, Prod.mk.injEq, Res.val.injEq] at hs
            obtain ⟨rfl, rfl⟩ := hs
            obtain ⟨a', c', he', _⟩ := hx.shorter (Nat.le_refl n)
            have hl : (Builtin.len_ #[t] o.type #[e' x]).run P w = .ok (.int .i64 n) w := by simp [Builtin.len_, Sem.run_bind, run_underlying hu, he', goInt]
            rw [hrun hl]
            exact hstill hl (flat_int _ _)
          all_goals first | (rename_i h1 h2; cases h1; done) | (cases hs; done) | skip
          all_goals simp_all
        · rename_i hu
          obtain rfl := Option.some.inj hc
          simp only [step] at hs
          split at hs
          · simp_all
          · rename_i sb _ hex
            rw [hex] at hx
            simp only [Option.some.injEq, Prod.mk.injEq, Res.val.injEq] at hs
            obtain ⟨rfl, rfl⟩ := hs
            have he' := hx.string
            have hl : (Builtin.len_ #[t] o.type #[e' x]).run P w = .ok (.int .i64 sb.size) w := by simp [Builtin.len_, Sem.run_bind, run_underlying hu, he', goInt]
            rw [hrun hl]
            exact hstill hl (flat_int _ _)
          all_goals simp_all
        · rename_i key el hu
          obtain rfl := Option.some.inj hc
          have hse : Sees ρ w st.h (blk (e x)) := by simpa [fpOf] using hsee
          simp only [step] at hs
          split at hs
          · simp_all
          · simp_all
          · rename_i _ hex
            rw [hex] at hx
            simp only [Option.some.injEq, Prod.mk.injEq, Res.val.injEq] at hs
            obtain ⟨rfl, rfl⟩ := hs
            have he' := hx.same rfl rfl
            have hl : (Builtin.len_ #[t] o.type #[e' x]).run P w = .ok (.int .i64 0) w := by simp [Builtin.len_, Sem.run_bind, run_underlying hu, he', goInt]
            rw [hrun hl]
            exact hstill hl (flat_int _ _)
          · rename_i bb _ hex
            split at hs
            · rename_i es clock hb
              rw [hex] at hx hse
              simp only [Option.some.injEq, Prod.mk.injEq, Res.val.injEq] at hs
              obtain ⟨rfl, rfl⟩ := hs
              obtain ⟨L, hL, he'⟩ := hx.inv_map
              obtain ⟨ys, h1, h2, h3⟩ := ((hse.at (by simp [blk]) hL) _ hb).map_inv
              have hl : (Builtin.len_ #[t] o.type #[e' x]).run P w = .ok (.int .i64 es.length) w := by simp [Builtin.len_, Sem.run_bind, run_underlying hu, he', goInt, run_getObj h1, h2.1]
              rw [hrun hl]
              exact hstill hl (flat_int _ _)
            · cases hs
          · simp_all
        · rename_i n el hu
          obtain rfl := Option.some.inj hc
          simp only [step, hg.constE, Option.some.injEq, Prod.mk.injEq, Res.val.injEq] at hs
          obtain ⟨rfl, rfl⟩ := hs
          have hl : (Builtin.len_ #[t] o.type #[e' x]).run P w = .ok (.int .i64 n) w := by simp [Builtin.len_, Sem.run_bind, run_underlying hu, goInt]
          rw [hrun hl]
          exact hstill hl (flat_int _ _)
        · rename_i a hu
          split at hc
          · rename_i n el hu2
            obtain rfl := Option.some.inj hc
            simp only [step, hg.constE, Option.some.injEq, Prod.mk.injEq, Res.val.injEq] at hs
            obtain ⟨rfl, rfl⟩ := hs
            have hl : (Builtin.len_ #[t] o.type #[e' x]).run P w = .ok (.int .i64 n) w := by simp [Builtin.len_, Sem.run_bind, run_underlying hu, run_underlying hu2, goInt]
            rw [hrun hl]
            exact hstill hl (flat_int _ _)
          · cases hc
        · cases hc
      · cases hc
    case append =>
      split at hc
      · rename_i s x sT xT hargs htys
        have hsv := hop2 s (by rw [hargs]; simp)
        have hx := hop2 x (by rw [hargs]; simp)
        obtain rfl : args = #[s, x] := Array.toList_inj.1 (by simpa using hargs)
        obtain rfl : argTypes = #[sT, xT] := Array.toList_inj.1 (by simpa using htys)
        have hrun : ((do let d ← resolve e' ⟨.builtin .append, #[s, x], #[sT, xT]⟩ o.type; invoke d.target d.args : Sem Next).run P w) = ((do pure (Next.value (← Builtin.append_ #[sT, xT] o.type #[e' s, e' x])) : Sem Next).run P w) := by simp [resolve, invoke, builtin]
        rw [hrun]
        split at hc
        · rename_i elem hu
          split at hc
          · rename_i size b z hsz hb hz
            split at hc
            · rename_i hcond
              simp only [Bool.and_eq_true, decide_eq_true_eq, beq_iff_eq] at hcond
              split at hc
              · rename_i xe hxt
                obtain rfl := Option.some.inj hc
                have hse1 : Sees ρ w st.h (blk (e s)) := fun k hk => hsee k (by simp [fpOf]; exact .inr hk)
                have hse2 : Sees ρ w st.h (blk (e x)) := fun k hk => hsee k (by simp [fpOf]; exact .inl hk)
                simp only [step, Option.map_eq_some_iff, Prod.mk.injEq, Res.val.injEq] at hs
                obtain ⟨⟨v0, st0⟩, ha, rfl, rfl⟩ := hs
                exact append_ok hd hu hxt hsz hb hz hcond.1.1 hcond.1.2 hcond.2 ha hsv hx hse1 hse2
              · rename_i q hxt
                obtain rfl := Option.some.inj hc
                have hse1 : Sees ρ w st.h (blk (e s)) := fun k hk => hsee k (by simp [fpOf]; exact hk)
                simp only [step, Option.map_eq_some_iff, Prod.mk.injEq, Res.val.injEq] at hs
                obtain ⟨⟨v0, st0⟩, ha, rfl, rfl⟩ := hs
                exact appendZ_ok hd hu hxt hsz hb hz hcond.1.1 hcond.1.2 hcond.2 ha hsv hx hse1
              · cases hc
            · cases hc
          · cases hc
        · cases hc
      · cases hc
    case copy =>
      split at hc
      · rename_i d s dT sT hargs htys
        have hdv := hop2 d (by rw [hargs]; simp)
        have hsv := hop2 s (by rw [hargs]; simp)
        obtain rfl : args = #[d, s] := Array.toList_inj.1 (by simpa using hargs)
        obtain rfl : argTypes = #[dT, sT] := Array.toList_inj.1 (by simpa using htys)
        have hrun : ((do let d ← resolve e' ⟨.builtin .copy, #[d, s], #[dT, sT]⟩ o.type; invoke d.target d.args : Sem Next).run P w) = ((do pure (Next.value (← Builtin.copy_ #[dT, sT] o.type #[e' d, e' s])) : Sem Next).run P w) := by simp [resolve, invoke, builtin]
        rw [hrun]
        split at hc
        · rename_i elem hu
          split at hc
          · rename_i size hsz
            split at hc
            · rename_i h0
              obtain rfl := Option.some.inj hc
              have hse1 : Sees ρ w st.h (blk (e d)) := fun k hk => hsee k (by simp [fpOf]; exact .inr hk)
              have hse2 : Sees ρ w st.h (blk (e s)) := fun k hk => hsee k (by simp [fpOf]; exact .inl hk)
              exact copy_ok (d := e d) (s := e s) hu hsz h0 (by simpa only [step, ev] using hs) hdv hsv hse1 hse2
            · cases hc
          · cases hc
        · cases hc
      · cases hc
    case max =>
      obtain rfl := Option.some.inj hc
      simp only [step, Option.map_eq_some_iff, Prod.mk.injEq, Res.val.injEq] at hs
      obtain ⟨v0, hv0, rfl, rfl⟩ := hs
      obtain ⟨v', h1, h2⟩ := maxmin_ok (P := P) (w := w) (st := st) (aT := argTypes) (ty := o.type) hv0 (LRel.map args.toList hop2)
      have hmap : (args.toList.map e').toArray = args.map e' := by apply Array.ext'; simp
      rw [hmap] at h1
      have hrun : ((do let d ← resolve e' ⟨.builtin .max, args, argTypes⟩ o.type; invoke d.target d.args : Sem Next).run P w) = ((do pure (Next.value (← Builtin.max_ argTypes o.type (args.map e'))) : Sem Next).run P w) := by simp [resolve, invoke, builtin]
      rw [hrun]
      exact hstill (by simpa using h1) h2
    case min =>
      obtain rfl := Option.some.inj hc
      simp only [step, Option.map_eq_some_iff, Prod.mk.injEq, Res.val.injEq] at hs
      obtain ⟨v0, hv0, rfl, rfl⟩ := hs
      obtain ⟨v', h1, h2⟩ := maxmin_ok (P := P) (w := w) (st := st) (aT := argTypes) (ty := o.type) hv0 (LRel.map args.toList hop2)
      have hmap : (args.toList.map e').toArray = args.map e' := by apply Array.ext'; simp
      rw [hmap] at h1
      have hrun : ((do let d ← resolve e' ⟨.builtin .min, args, argTypes⟩ o.type; invoke d.target d.args : Sem Next).run P w) = ((do pure (Next.value (← Builtin.min_ argTypes o.type (args.map e'))) : Sem Next).run P w) := by simp [resolve, invoke, builtin]
      rw [hrun]
      exact hstill (by simpa using h1) h2
    case delete =>
      split at hc
      · rename_i m k t kT hargs htys
        have hmv := hop2 m (by rw [hargs]; simp)
        have hkv := hop2 k (by rw [hargs]; simp)
        obtain rfl : args = #[m, k] := Array.toList_inj.1 (by simpa using hargs)
        obtain rfl : argTypes = #[t, kT] := Array.toList_inj.1 (by simpa using htys)
        have hrun : ((do let d ← resolve e' ⟨.builtin .delete, #[m, k], #[t, kT]⟩ o.type; invoke d.target d.args : Sem Next).run P w) = ((do pure (Next.value (← Builtin.delete_ #[t, kT] o.type #[e' m, e' k])) : Sem Next).run P w) := by simp [resolve, invoke, builtin]
        rw [hrun]
        split at hc
        · rename_i key el hu
          simp only [Option.map_eq_some_iff] at hc
          obtain ⟨⟨sh, ag⟩, hk, rfl⟩ := hc
          have hse : Sees ρ w st.h (blk (e m)) := by simpa [fpOf] using hsee
          simp only [step] at hs
          split at hs
          · rename_i bb hm
            split at hs
            · rename_i es clock hb
              rw [hm] at hmv hse
              simp only [bind, Option.bind_eq_some_iff, Option.some.injEq, Prod.mk.injEq, Res.val.injEq] at hs
              obtain ⟨f, hf, rfl, rfl⟩ := hs
              have := delete_ok (P := P) (w := w) (aT := kT) (ty := o.type) hu hk hmv hb (hse bb (by simp [blk])) hkv hf
              have hw : (fpOf (ROp.delete sh ag m k) e st).w = [bb] := by simp [fpOf, hm, blk]
              rw [hw]
              cases f <;> exact this
            · cases hs
          · cases hs
        · cases hc
      · cases hc

end Go.Ai
