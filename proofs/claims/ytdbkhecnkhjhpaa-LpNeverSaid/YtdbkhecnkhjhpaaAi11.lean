/- Maps whose keys are compared cell by cell. -/
import Derived.Test.YtdbkhecnkhjhpaaAi10
namespace Go.Ai
open Go.RowKit
set_option linter.unusedSimpArgs false
set_option linter.unusedVariables false
variable {P : Program} {ρ : RM} {w : World}

theorem run_checkKey_shape (em : Bool) (d : Nat) : ∀ (t : TypeId) (D : TypeDesc) (sh : List (Option IntKind)) (n : Nat) (x : Value), P.underlying t = some D → shapeC P d t = some sh → d ≤ n → Fit D sh x →
    (Instr.checkKey em n t x).run P w = .ok () w := by
  induction d with
  | zero => intro t D sh n x _ h; simp [shapeC] at h
  | succ d ih =>
    intro t D sh n x hD h hn hx
    obtain ⟨n, rfl⟩ : ∃ k, n = k + 1 := ⟨n - 1, by omega⟩
    cases D <;> simp only [shapeC, hD] at h
    all_goals first | (cases h; done) | skip
    case bool =>
      obtain rfl := Option.some.inj h
      simp only [Fit, isAggD] at hx
      cases x <;> simp [fitsAll, fits] at hx
      simp [Instr.checkKey, run_underlying hD]
    case int k =>
      obtain rfl := Option.some.inj h
      simp only [Fit, isAggD] at hx
      cases x <;> simp [fitsAll, fits] at hx
      simp [Instr.checkKey, run_underlying hD]
    case array m e =>
      split at h
      · rename_i me hme
        split at h
        · rename_i hsz
          obtain rfl := Option.some.inj h
          simp only [Fit, isAggD, if_true] at hx
          obtain ⟨xs, rfl, hx⟩ := hx
          have hsz' : sizeC P e = some me.length := by simpa using hsz
          obtain ⟨De, hDe⟩ : ∃ De, P.underlying e = some De := by
            cases d with
            | zero => simp [shapeC] at hme
            | succ d => cases hu : P.underlying e with
              | none => simp [shapeC, hu] at hme
              | some De => exact ⟨De, rfl⟩
          rw [Instr.checkKey]
          simp only [Sem.run_bind, run_underlying hD, Result.andThen_ok]
          simp only [Std.Legacy.Range.forIn_eq_forIn_range', Std.Legacy.Range.size, Nat.sub_zero, Nat.add_one_sub_one, Nat.div_one]
          suffices H : ∀ (k s : Nat), fitsAll ((List.replicate k me).flatten) (xs.toList.drop (s * me.length)) = true →
              (forIn (List.range' s k) PUnit.unit (fun i r => do
                Instr.checkKey em n e (← part e xs (i * (← sizeOf e)))
                pure (ForInStep.yield PUnit.unit)) : Sem PUnit).run P w = .ok PUnit.unit w by
            have := H m 0 (by simpa using hx)
            simp [Sem.run_bind] at this ⊢
            simp [this]
          intro k
          induction k with
          | zero => intro s hx; simp
          | succ k ihk =>
            intro s hx
            simp only [List.replicate_succ, List.flatten_cons] at hx
            obtain ⟨hx1, hx2⟩ := fitsAll_append hx
            rw [List.drop_drop] at hx2
            have es : s * me.length + me.length = (s + 1) * me.length := by rw [Nat.succ_mul]
            rw [es] at hx2
            obtain ⟨a, ha1, ha2, ha3⟩ := run_part_fit (w := w) hsz' hDe (shapeC_plain hme hDe) hx1
            have hr := ih e De me n a hDe hme (by omega) ha2
            have hk := ihk (s + 1) hx2
            rw [List.range'_succ]
            simp only [List.forIn_cons, Sem.run_bind, run_size hsz', Result.andThen_ok, ha1, hr, Sem.run_pure]
            simpa [Sem.run_bind] using hk
        · cases h
      · cases h
    case struct fs =>
      split at h
      · cases h
      · rename_i hst
        simp only [Fit, isAggD, if_true] at hx
        obtain ⟨xs, rfl, hx⟩ := hx
        rw [Instr.checkKey]
        simp only [Sem.run_bind, run_underlying hD, Result.andThen_ok]
        rw [← Array.forIn_toList]
        suffices H : ∀ (l : List Field) (off : Nat) (sh : List (Option IntKind)), shapeFs P (shapeC P d) off l = some sh → fitsAll sh (xs.toList.drop off) = true →
            (forIn l PUnit.unit (fun f r => do
              if f.name ≠ "_" then Instr.checkKey em n f.type (← part f.type xs f.offset)
              pure (ForInStep.yield PUnit.unit)) : Sem PUnit).run P w = .ok PUnit.unit w by
          have := H fs.toList 0 sh h (by simpa using hx)
          simp [Sem.run_bind] at this ⊢
          simp [this]
        intro l
        induction l with
        | nil => intro off sh h hx; simp
        | cons f l ihl =>
          intro off sh h hx
          simp only [shapeFs] at h
          split at h
          · rename_i mf hmf
            split at h
            · rename_i hc
              simp only [Bool.and_eq_true, bne_iff_ne, ne_eq, beq_iff_eq] at hc
              obtain ⟨⟨hn1, hoff⟩, hsz'⟩ := hc
              cases hrest : shapeFs P (shapeC P d) (off + mf.length) l with
              | none => simp [hrest] at h
              | some rest =>
                simp only [hrest, Option.map_some, Option.some.injEq] at h
                subst h
                obtain ⟨hx1, hx2⟩ := fitsAll_append hx
                rw [List.drop_drop] at hx2
                obtain ⟨De, hDe⟩ : ∃ De, P.underlying f.type = some De := by
                  cases d with
                  | zero => simp [shapeC] at hmf
                  | succ d => cases hu : P.underlying f.type with
                    | none => simp [shapeC, hu] at hmf
                    | some De => exact ⟨De, rfl⟩
                obtain ⟨a, ha1, ha2, ha3⟩ := run_part_fit (w := w) hsz' hDe (shapeC_plain hmf hDe) hx1
                have hr := ih f.type De mf n a hDe hmf (by omega) ha2
                have hk := ihl (off + mf.length) rest hrest hx2
                simp only [List.forIn_cons, Sem.run_bind, hn1, ne_eq, not_false_eq_true, if_true, hoff, Result.andThen_ok, ha1, hr, Sem.run_pure]
                simpa [Sem.run_bind] using hk
            · cases h
          · cases h

/-! ### Keys -/
theorem eqCell_fits {s : Option IntKind} {a b : Value} (ha : fits s a = true) (hb : fits s b = true) (h : eqCell a b = true) : a = b := by
  cases s <;> cases a <;> simp [fits] at ha <;> cases b <;> simp [fits] at hb <;> simp_all [eqCell]
theorem eqCells_fits {sh : List (Option IntKind)} : ∀ {a b : List Value}, fitsAll sh a = true → fitsAll sh b = true → eqCells a b = true → a = b := by
  induction sh with
  | nil => intro a b ha hb _; cases a <;> cases b <;> simp_all [fitsAll]
  | cons s sh ih =>
    intro a b ha hb h
    cases a <;> cases b <;> simp [fitsAll] at ha hb
    simp [eqCells] at h
    rw [eqCell_fits ha.1 hb.1 h.1, ih ha.2 hb.2 h.2]
theorem fits_flat {s : Option IntKind} {a : Value} (ha : fits s a = true) : flat a = true ∧ isE a = false := by
  cases s <;> cases a <;> simp [fits] at ha <;> exact ⟨rfl, rfl⟩
theorem fitsAll_same {sh : List (Option IntKind)} : ∀ {xs ys : List Value}, fitsAll sh xs = true → LRel ρ xs ys → ys = xs := by
  induction sh with
  | nil =>
    intro xs ys h hl
    cases xs with
    | nil => have := hl.1; simpa using this.symm
    | cons a xs => simp [fitsAll] at h
  | cons s sh ih =>
    intro xs ys h hl
    cases xs with
    | nil => simp [fitsAll] at h
    | cons a xs =>
      obtain ⟨b, ys', rfl, h1, h2⟩ := hl.uncons
      simp [fitsAll] at h
      obtain ⟨f1, f2⟩ := fits_flat h.1
      rw [h1.same f1 f2, ih h.2 h2]

/-- What a key of a shape is. -/
theorem keyCells_iff {sh : List (Option IntKind)} {agg : Bool} {v : Value} {cs : List Value} (h : keyCells sh agg v = some cs) :
    cs = v.cells.toList ∧ fitsAll sh cs = true ∧ (agg = true → ∃ xs, v = .agg xs) ∧ (agg = false → cs = [v]) := by
  cases agg with
  | true =>
    cases v <;> simp [keyCells] at h
    obtain ⟨h1, rfl⟩ := h
    exact ⟨rfl, h1, fun _ => ⟨_, rfl⟩, fun h => by simp at h⟩
  | false =>
    cases v <;> simp [keyCells] at h
    all_goals
      obtain ⟨h1, rfl⟩ := h
      exact ⟨rfl, h1, fun h => by simp at h, fun _ => rfl⟩

theorem key_same {sh : List (Option IntKind)} {agg : Bool} {v v' : Value} {cs : List Value} (h : keyCells sh agg v = some cs) (hv : VRel ρ v v') : v' = v := by
  obtain ⟨h1, h2, h3, h4⟩ := keyCells_iff h
  cases agg with
  | true =>
    obtain ⟨xs, rfl⟩ := h3 rfl
    obtain ⟨ys, rfl, hl⟩ := hv.inv_agg
    have e : xs.toList = cs := by rw [h1]; rfl
    have := fitsAll_same (e ▸ h2) hl
    rw [Array.toList_inj.1 this]
  | false =>
    have := h4 rfl
    subst this
    cases sh with
    | nil => simp [fitsAll] at h2
    | cons s sh =>
      simp [fitsAll] at h2
      obtain ⟨f1, f2⟩ := fits_flat h2.1
      exact hv.same f1 f2
theorem key_inj {sh : List (Option IntKind)} {agg : Bool} {a b : Value} {ca cb : List Value} (ha : keyCells sh agg a = some ca) (hb : keyCells sh agg b = some cb) (h : eqCells ca cb = true) : a = b := by
  obtain ⟨h1, h2, h3, h4⟩ := keyCells_iff ha
  obtain ⟨k1, k2, k3, k4⟩ := keyCells_iff hb
  have e := eqCells_fits h2 k2 h
  cases agg with
  | true =>
    obtain ⟨xs, rfl⟩ := h3 rfl
    obtain ⟨ys, rfl⟩ := k3 rfl
    have : xs.toList = ys.toList := by rw [h1, k1] at e; exact e
    rw [Array.toList_inj.1 this]
  | false =>
    have q1 := h4 rfl
    have q2 := k4 rfl
    rw [q1, q2] at e
    simpa using e

/-- What is known of a type of keys. -/
theorem keyC_fit {t : TypeId} {sh : List (Option IntKind)} {agg : Bool} (hk : keyC P t = some (sh, agg)) : ∃ D, P.underlying t = some D ∧ shapeC P 8 t = some sh ∧ isAggD D = agg ∧
    ∀ v cs, keyCells sh agg v = some cs → Fit D sh v := by
  unfold keyC at hk
  split at hk
  · rename_i s a hs ha
    simp only [Option.some.injEq, Prod.mk.injEq] at hk
    obtain ⟨rfl, rfl⟩ := hk
    unfold isAggT aggN at ha
    cases hu : P.underlying t with
    | none => simp [hu] at ha
    | some D =>
      have hagg : isAggD D = a := by
        cases D <;> simp [hu] at ha <;> first
          | (rw [← ha]; rfl)
          | (obtain ⟨x, ⟨i, hi, rfl⟩, rfl⟩ := ha; rfl)
          | (subst ha; rfl)
          | skip
        all_goals (cases hi : P.info? t with
          | none => simp [hi] at ha
          | some i => simp [hi] at ha; rw [← ha]; rfl)
      refine ⟨D, rfl, hs, hagg, fun v cs h => ?_⟩
      obtain ⟨h1, h2, h3, h4⟩ := keyCells_iff h
      unfold Fit
      cases a with
      | true =>
        obtain ⟨xs, rfl⟩ := h3 rfl
        rw [if_pos hagg]
        exact ⟨xs, rfl, by rw [h1] at h2; exact h2⟩
      | false =>
        have := h4 rfl
        subst this
        rw [if_neg (by rw [hagg]; simp)]
        exact h2
  · cases hk

theorem run_findKey_shape {t : TypeId} {sh : List (Option IntKind)} {agg : Bool} (hk : keyC P t = some (sh, agg)) {k : Value} {cs : List Value} (hkey : keyCells sh agg k = some cs) {es : List MapEntry} (hes : keysOk sh agg es = true) :
    (Instr.findKey t k es).run P w = .ok (findE cs es 0) w := by
  obtain ⟨D, hD, hsh, hagg, hfit⟩ := keyC_fit hk
  have hcs : cs = cellsV k := (keyCells_iff hkey).1
  have key : ∀ (e : MapEntry), e ∈ es → ∃ ce, keyCells sh agg e.key = some ce ∧ ce = cellsV e.key := fun e he => by
    have := List.all_eq_true.1 hes e he
    cases hc : keyCells sh agg e.key with
    | none => simp [hc] at this
    | some ce => exact ⟨ce, rfl, (keyCells_iff hc).1⟩
  have heq : ∀ e ∈ es, (Op.equal t k e.key).run P w = .ok (eqCells cs (cellsV e.key)) w := fun e he => by
    obtain ⟨ce, h1, h2⟩ := key e he
    rw [hcs]
    exact run_equal_shape 8 t D sh 10000 k e.key hD hsh (by omega) (hfit _ _ hkey) (hfit _ _ h1)
  have hask : ∀ (l : List MapEntry) (i : Nat), (∀ e ∈ l, e ∈ es) → (Instr.findAsking t k l i).run P w = .ok (findE cs l i) w := by
    intro l
    induction l with
    | nil => intro i _; rfl
    | cons e l ih =>
      intro i h
      simp only [Instr.findAsking, Sem.run_bind, heq e (h e (by simp)), Result.andThen_ok, findE]
      show _ = Result.ok (if eqCells cs (cellsV e.key) = true then _ else _) w
      cases hc : eqCells cs (cellsV e.key) with
      | true => simp
      | false => simpa using ih (i + 1) fun x hx => h x (by simp [hx])
  have hnow : ∀ (l : List MapEntry) (i : Nat), (∀ e ∈ l, e ∈ es) → Instr.findNow D k l i = none ∨ Instr.findNow D k l i = some (findE cs l i) := by
    intro l
    induction l with
    | nil => intro i _; exact .inr rfl
    | cons e l ih =>
      intro i h
      obtain ⟨ce, h1, h2⟩ := key e (h e (by simp))
      unfold Instr.findNow
      cases hs : Instr.sameNow D k e.key with
      | none => exact .inl rfl
      | some b =>
        have hb : eqCells cs (cellsV e.key) = b := by
          have f1 := hfit _ _ hkey
          have f2 := hfit _ _ h1
          rw [hcs]
          have hlen := shapeC_plain hsh hD
          cases D <;> simp only [Instr.sameNow] at hs
          all_goals first
            | (cases hs; done)
            | skip
          all_goals
            simp only [Fit, isAggD] at f1 f2
            simp only [isAggD] at hlen
            obtain ⟨s, rfl⟩ : ∃ s, sh = [s] := by
              cases sh with
              | nil => simp at hlen
              | cons s sh => cases sh with
                | nil => exact ⟨s, rfl⟩
                | cons _ _ => simp at hlen
            cases s <;> cases k <;> simp [fitsAll, fits] at f1 <;> (generalize e.key = kk at *; cases kk <;> simp [fitsAll, fits] at f2 <;> simp [Instr.sameNow] at hs) <;> simp_all [cellsV, Value.cells, eqCells, eqCell]
        show _ ∨ _ = some (if eqCells cs (cellsV e.key) = true then _ else _)
        rw [hb]
        cases b with
        | true => exact .inr (by simp)
        | false => simpa using ih (i + 1) fun x hx => h x (by simp [hx])
  unfold Instr.findKey
  simp only [Sem.run_bind, run_underlying hD, Result.andThen_ok]
  rcases hnow es 0 (fun _ h => h) with h | h
  · rw [h]; exact hask es 0 fun _ h => h
  · rw [h]; rfl

theorem run_keyStays {sh : List (Option IntKind)} {agg : Bool} {k : Value} {cs : List Value} (h : keyCells sh agg k = some cs) : (Instr.keyThatStays k k).run P w = .ok k w := by
  obtain ⟨h1, h2, h3, h4⟩ := keyCells_iff h
  have hf : ∀ (n : Nat) (s : Option IntKind) (a : Value), fits s a = true → Instr.sameBits n a a = true := by
    intro n s a ha
    cases s <;> cases a <;> simp [fits] at ha <;> simp [Instr.sameBits]
  have hall : ∀ (n : Nat) (sh : List (Option IntKind)) (l : List Value), fitsAll sh l = true → (l.zip l).all (fun p => Instr.sameBits n p.1 p.2) = true := by
    intro n sh
    induction sh with
    | nil => intro l h; cases l <;> simp_all [fitsAll]
    | cons s sh ih =>
      intro l h
      cases l with
      | nil => simp [fitsAll] at h
      | cons a l =>
        simp [fitsAll] at h
        have := ih l h.2
        simp only [List.zip_cons_cons, List.all_cons, this, hf n s a h.1, Bool.and_self]
  have : Instr.sameBits 10000 k k = true := by
    cases agg with
    | true =>
      obtain ⟨xs, rfl⟩ := h3 rfl
      show (xs.size == xs.size && _) = true
      have := hall 9999 sh xs.toList (by rw [h1] at h2; exact h2)
      simpa using this
    | false =>
      have := h4 rfl
      subst this
      cases sh with
      | nil => simp [fitsAll] at h2
      | cons s sh => simp [fitsAll] at h2; exact hf _ s k h2.1
  simp [Instr.keyThatStays, this]

end Go.Ai
