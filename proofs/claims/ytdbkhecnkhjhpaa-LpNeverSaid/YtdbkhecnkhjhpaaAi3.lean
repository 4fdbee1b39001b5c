/- Memory: what is read, written and made. -/
import Derived.Test.YtdbkhecnkhjhpaaAi2
namespace Go.Ai
open Go.RowKit
set_option linter.unusedSimpArgs false
set_option linter.unusedVariables false
variable {P : Program} {ρ : RM} {w : World}

theorem add_none (b i k : Nat) : (⟨b, i, none⟩ : Addr).add k = ⟨b, i + k, none⟩ := by
  unfold Addr.add
  split <;> simp_all

theorem cell_at {b i : Nat} {cs : Array Value} {e : TypeId} {fz : Nat × Nat} (h : w.heap[b]? = some (.cells cs e fz)) : w.cell? ⟨b, i, none⟩ = cs[i]? := by
  simp [World.cell?, h]

/-- What is read of a block's cells. -/
theorem CellsRel.part {c : List Value} {cs : Array Value} {sh i n : Nat} (h : CellsRel ρ c cs sh) (hi : i + n ≤ c.length) :
    ∃ l' : List Value, LRel ρ ((c.drop i).take n) l' ∧ l'.length = n ∧ ∀ j v, l'[j]? = some v → cs[sh + i + j]? = some v := by
  refine ⟨(cs.toList.drop (sh + i)).take n, ⟨?_, ?_⟩, ?_, ?_⟩
  · have : sh + i + n ≤ cs.size ∨ n = 0 := by
      rcases Nat.eq_zero_or_pos n with h0 | h0
      · exact .inr h0
      · left
        obtain ⟨v', hv, _⟩ := h (i + n - 1) c[i + n - 1] (by simp [List.getElem?_eq_getElem (show i + n - 1 < c.length by omega)])
        have := (Array.getElem?_eq_some_iff.1 hv).1
        omega
    simp
    omega
  · intro j a b ha hb
    by_cases hj : j < n
    · rw [List.getElem?_take_of_lt hj, List.getElem?_drop] at ha hb
      obtain ⟨v', hv, hr⟩ := h (i + j) a ha
      have : v' = b := by
        have hb' : cs[sh + i + j]? = some b := by simpa using hb
        rw [show sh + (i + j) = sh + i + j by omega] at hv
        rw [hv] at hb'
        exact Option.some.inj hb'
      exact this ▸ hr
    · rw [List.getElem?_take, if_neg hj] at ha; cases ha
  · have : sh + i + n ≤ cs.size ∨ n = 0 := by
      rcases Nat.eq_zero_or_pos n with h0 | h0
      · exact .inr h0
      · left
        obtain ⟨v', hv, _⟩ := h (i + n - 1) c[i + n - 1] (by simp [List.getElem?_eq_getElem (show i + n - 1 < c.length by omega)])
        have := (Array.getElem?_eq_some_iff.1 hv).1
        omega
    simp
    omega
  · intro j v hv
    by_cases hj : j < n
    · rw [List.getElem?_take_of_lt hj, List.getElem?_drop] at hv
      simpa using hv
    · rw [List.getElem?_take, if_neg hj] at hv; cases hv

theorem run_loadCells_part {b i n : Nat} {cs : Array Value} {e : TypeId} {fz : Nat × Nat} {l' : List Value} (hb : w.heap[b]? = some (.cells cs e fz)) (hn : l'.length = n)
    (h : ∀ j v, l'[j]? = some v → cs[i + j]? = some v) : (loadCells ⟨b, i, none⟩ n).run P w = .ok l'.toArray w := by
  subst hn
  refine run_loadCells_list w _ l' fun j v hv => ?_
  rw [add_none, cell_at hb]
  exact h j v hv

theorem rdN_ok {h : List O} {b i n : Nat} {l : List Value} {lo : Loc} (hr : rdN h b i n = some l) (hm : ∀ o, h[b]? = some o → CRel ρ w lo o) :
    ∃ l', LRel ρ l l' ∧ l.length = n ∧ (loadCells ⟨lo.b, lo.sh + i, none⟩ n).run P w = .ok l'.toArray w := by
  unfold rdN at hr
  split at hr
  · rename_i c e own hc
    split at hr
    · rename_i hi
      obtain rfl := Option.some.inj hr
      obtain ⟨cs, e', fz, h1, h2, h3, h9⟩ := hm _ hc
      obtain ⟨l', hl, hn, hj⟩ := h2.part hi
      exact ⟨l', hl, by simp; omega, run_loadCells_part h1 hn hj⟩
    · cases hr
  · cases hr

theorem rdN_ok2 {h : List O} {b i n : Nat} {l : List Value} {lo : Loc} (hr : rdN h b i n = some l) (hm : ∀ o, h[b]? = some o → CRel ρ w lo o) :
    ∃ l', LRel ρ l l' ∧ l.length = n ∧ ∀ w2 : World, w2.heap = w.heap → (loadCells ⟨lo.b, lo.sh + i, none⟩ n).run P w2 = .ok l'.toArray w2 := by
  unfold rdN at hr
  split at hr
  · rename_i c e own hc
    split at hr
    · rename_i hi
      obtain rfl := Option.some.inj hr
      obtain ⟨cs, e', fz, h1, h2, h3, h9⟩ := hm _ hc
      obtain ⟨l', hl, hn, hj⟩ := h2.part hi
      exact ⟨l', hl, by simp; omega, fun w2 hw => run_loadCells_part (by rw [hw]; exact h1) hn hj⟩
    · cases hr
  · cases hr

theorem rd_ok {h : List O} {b i : Nat} {v : Value} {lo : Loc} (hr : rd h b i = some v) (hm : ∀ o, h[b]? = some o → CRel ρ w lo o) :
    ∃ v', VRel ρ v v' ∧ (load ⟨lo.b, lo.sh + i, none⟩).run P w = .ok v' w := by
  unfold rd at hr
  split at hr
  · rename_i c e own hc
    obtain ⟨cs, e', fz, h1, h2, h3, h9⟩ := hm _ hc
    obtain ⟨v', h4, h5⟩ := h2 i v hr
    exact ⟨v', h5, by simp [cell_at h1, h4]⟩
  · cases hr

theorem load_ok {t : TypeId} {h : List O} {n : Option Nat} {b i : Nat} {a' v : Value} {lo : Loc} (ht : aggN P t = some n) (hρ : ρ b = some lo) (hm : ∀ o, h[b]? = some o → CRel ρ w lo o)
    (ha : VRel ρ (.pointer (some ⟨b, i, none⟩)) a') (hv : (match n with | none => rd h b i | some k => (rdN h b i k).map fun l => .agg l.toArray) = some v) :
    ∃ v', (Instr.loadAt t a').run P w = .ok v' w ∧ VRel ρ v v' := by
  obtain ⟨lo', hl, rfl⟩ := ha.inv_ptr
  obtain rfl : lo' = lo := Option.some.inj (hl.symm.trans hρ)
  unfold aggN at ht
  have hs : (Instr.sureAddr (.pointer (some ⟨lo'.b, lo'.sh + i, none⟩))).run P w = .ok ⟨lo'.b, lo'.sh + i, none⟩ w := rfl
  cases hu : P.underlying t with
  | none => simp [hu] at ht
  | some d =>
    cases n with
    | none =>
      have ha : isAggD d = false := by
        cases d <;> simp [hu] at ht <;> first | rfl | (obtain ⟨i, hi, h⟩ := ht; cases h)
      obtain ⟨v', h1, h2⟩ := rd_ok (P := P) hv hm
      exact ⟨v', by simp only [Instr.loadAt, Sem.run_bind, hs, Result.andThen_ok, loadVar, run_isAgg hu, ha, Bool.false_eq_true, if_false]; exact h2, h1⟩
    | some k =>
      have hsz : isAggD d = true ∧ sizeC P t = some k := by
        cases d <;> simp [hu] at ht <;> (obtain ⟨i, hi, h⟩ := ht; subst h; exact ⟨rfl, by simp [sizeC, hi]⟩)
      obtain ⟨ha, hsz⟩ := hsz
      simp only [Option.map_eq_some_iff] at hv
      obtain ⟨l, hl, rfl⟩ := hv
      obtain ⟨l', h1, _, h2⟩ := rdN_ok (P := P) hl hm
      exact ⟨_, by simp only [Instr.loadAt, Sem.run_bind, hs, Result.andThen_ok, loadVar, run_isAgg hu, ha, if_true, run_size hsz, h2, Sem.run_pure], VRel.agg' h1⟩

theorem one1_ok {v v' : Value} (h : VRel ρ v v') (h1 : one1 v = true) : v'.oneCell' = true := by
  cases h <;> first | rfl | (simp [one1] at h1; done) | skip
  rename_i h2 h3
  cases v <;> simp_all [one1, Value.oneCell']

def setA (cs : Array Value) (i : Nat) : List Value → Array Value
  | [] => cs
  | v :: vs => setA (cs.setIfInBounds i v) (i + 1) vs
theorem setA_size (vs : List Value) : ∀ (cs : Array Value) (i : Nat), (setA cs i vs).size = cs.size := by
  induction vs with
  | nil => intro cs i; rfl
  | cons v vs ih => intro cs i; simp [setA, ih]

theorem CellsRel.set {sh : Nat} (vs : List Value) : ∀ (vs' : List Value) (c : List Value) (cs : Array Value) (i : Nat), CellsRel ρ c cs sh → LRel ρ vs vs' → i + vs.length ≤ c.length →
    CellsRel ρ (setL c i vs) (setA cs (sh + i) vs') sh := by
  induction vs with
  | nil =>
    intro vs' c cs i h hl _
    have : vs' = [] := by have := hl.1; simpa using this.symm
    subst this
    exact h
  | cons v vs ih =>
    intro vs' c cs i h hl hi
    obtain ⟨v', vs', rfl, hv, hl'⟩ := hl.uncons
    simp only [List.length_cons] at hi
    refine ih vs' _ _ (i + 1) ?_ hl' (by simp; omega)
    intro j x hx
    obtain ⟨y, hy, _⟩ := h i c[i] (by simp [List.getElem?_eq_getElem (show i < c.length by omega)])
    have hlt : sh + i < cs.size := (Array.getElem?_eq_some_iff.1 hy).1
    by_cases hj : j = i
    · subst hj
      rw [List.getElem?_set_self (by omega)] at hx
      obtain rfl := Option.some.inj hx
      exact ⟨v', by simp [hlt], hv⟩
    · rw [List.getElem?_set_ne (by omega)] at hx
      obtain ⟨z, hz, hr⟩ := h j x hx
      exact ⟨z, by rw [Array.getElem?_setIfInBounds_ne (by omega)]; exact hz, hr⟩

theorem CellsRel.size {c : List Value} {cs : Array Value} {sh : Nat} (h : CellsRel ρ c cs sh) : c = [] ∨ sh + c.length ≤ cs.size := by
  cases c with
  | nil => exact .inl rfl
  | cons x c =>
    right
    obtain ⟨v, hv, _⟩ := h c.length ((x :: c)[c.length]) (by simp [List.getElem?_eq_getElem])
    have := (Array.getElem?_eq_some_iff.1 hv).1
    simp
    omega

/-- The world after a block has been written. -/
structure Wrote (w w' : World) (b : Nat) (o : Obj) : Prop where
  os : w'.os = w.os
  tape : w'.tape = w.tape
  output : w'.output = w.output
  size : w'.heap.size = w.heap.size
  at_ : w'.heap[b]? = some o
  other : ∀ k, k ≠ b → w'.heap[k]? = w.heap[k]?

theorem Wrote.trans {w w' w'' : World} {b : Nat} {o o' : Obj} (h : Wrote w w' b o) (k : Wrote w' w'' b o') : Wrote w w'' b o' :=
  ⟨k.os.trans h.os, k.tape.trans h.tape, k.output.trans h.output, k.size.trans h.size, k.at_, fun j hj => (k.other j hj).trans (h.other j hj)⟩

theorem wrote_setCell {b i : Nat} {cs : Array Value} {e : TypeId} {fz : Nat × Nat} (v : Value) (h : w.heap[b]? = some (.cells cs e fz)) :
    Wrote w (w.setCell ⟨b, i, none⟩ v) b (.cells (cs.setIfInBounds i v) e fz) := by
  refine ⟨rfl, rfl, rfl, by simp [World.setCell], ?_, fun k hk => ?_⟩
  · simp [World.setCell, Array.getElem?_modify, h]
  · simp only [World.setCell, Array.getElem?_modify]
    rw [if_neg (by omega)]

theorem run_storeCells {b : Nat} {e : TypeId} : ∀ (vs : List Value) (i k : Nat) (cs : Array Value) (w : World), w.heap[b]? = some (.cells cs e (0, 0)) → i + k + vs.length ≤ cs.size → (∀ v ∈ vs, v.oneCell' = true) →
    ∃ w', (storeCells ⟨b, i, none⟩ vs k).run P w = .ok () w' ∧ Wrote w w' b (.cells (setA cs (i + k) vs) e (0, 0))
  | [], i, k, cs, w, h, _, _ => ⟨w, rfl, rfl, rfl, rfl, rfl, h, fun _ _ => rfl⟩
  | v :: vs, i, k, cs, w, h, hl, h1 => by
    simp only [List.length_cons] at hl
    have hW := wrote_setCell (i := i + k) v h
    obtain ⟨w', h2, h3⟩ := run_storeCells vs i (k + 1) (cs.setIfInBounds (i + k) v) (w.setCell ⟨b, i + k, none⟩ v) hW.at_ (by simp; omega) (fun x hx => h1 x (by simp [hx]))
    refine ⟨w', ?_, hW.trans h3⟩
    have hf : w.frozen? ⟨b, i + k, none⟩ = false := by simp [World.frozen?, h]
    have hlt : i + k < cs.size := by omega
    simp only [storeCells, Sem.run_bind, add_none, run_store P w _ v .plain (h1 v (by simp)), cell_at h, hf]
    simp [hlt, h2]

end Go.Ai
