/- From the reading of plain data (numbers, bools, slices, structs, arrays) to canonical memory. -/
import Derived.Test.YtdbkhecnkhjhpaaAiX
import Derived.Test.YtdbkhecnkhjhpaaAi30
import Derived.ChangeArms
import Derived.SizedLaws
namespace Go.Ai
set_option linter.unusedSimpArgs false
set_option linter.unusedVariables false

/-- What a cell holds. -/
inductive Sh where
  | int (k : IntKind)
  | bool
  | slice (es : List Sh)

def shapesFs (P : Program) (sh : TypeId → Option (List Sh)) : Nat → List Field → Option (List Sh)
  | _, [] => some []
  | off, f :: fs => match sh f.type with
    | some m => if f.offset = off ∧ P.cellsOf f.type = m.length then (shapesFs P sh (off + m.length) fs).map (m ++ ·) else none
    | none => none
/-- The cells of a plain type. -/
def shapes (P : Program) : Nat → TypeId → Option (List Sh)
  | 0, _ => none
  | d + 1, t => match P.underlying t with
    | some (.int k) => some [.int k]
    | some .bool => some [.bool]
    | some (.slice e) => match shapes P d e with
      | some es => if P.cellsOf e = es.length ∧ 0 < es.length ∧ 0 < P.bytesOf e then some [.slice es] else none
      | none => none
    | some (.struct fs) => match shapesFs P (shapes P d) 0 fs.toList with
      | some l => if P.cellsOf t = l.length then some l else none
      | none => none
    | some (.array n e) => match shapes P d e with
      | some es => if P.cellsOf e = es.length ∧ P.cellsOf t = n * es.length then some ((List.replicate n es).flatten) else none
      | none => none
    | _ => none

inductive Fits (h : List O) : Sh → Value → Prop
  | int {k n} : (Lit.int k n).wf = true → Fits h (.int k) (.int k n)
  | bool {b} : Fits h .bool (.bool b)
  | slice {es a n c} (b o : Nat) (vs : Nat → List Value) : n ≤ reachBytes → (0 < n → a = some ⟨b, o, none⟩) → (∀ i, i < n → rdN h b (o + i * es.length) es.length = some (vs i)) →
      (∀ (i j : Nat) (s : Sh) (v : Value), i < n → es[j]? = some s → (vs i)[j]? = some v → Fits h s v) → Fits h (.slice es) (.slice a n c)
theorem Fits.ext {h h' : List O} (k : Ext h h') {s : Sh} {v : Value} (hf : Fits h s v) : Fits h' s v := by
  induction hf with
  | int hw => exact .int hw
  | bool => exact .bool
  | slice b o vs h1 h2 h3 _ ih => exact .slice b o vs h1 h2 (fun i hi => k.rdN (h3 i hi)) ih
def FitsL (h : List O) (shs : List Sh) (cs : List Value) : Prop := cs.length = shs.length ∧ ∀ (j : Nat) s v, shs[j]? = some s → cs[j]? = some v → Fits h s v
theorem FitsL.ext {h h' : List O} (k : Ext h h') {shs : List Sh} {cs : List Value} (hf : FitsL h shs cs) : FitsL h' shs cs := ⟨hf.1, fun j s v h1 h2 => (hf.2 j s v h1 h2).ext k⟩
theorem FitsL.nil (h : List O) : FitsL h [] [] := ⟨rfl, fun j s v h1 => by simp at h1⟩
theorem FitsL.append {h : List O} {s1 s2 : List Sh} {c1 c2 : List Value} (h1 : FitsL h s1 c1) (h2 : FitsL h s2 c2) : FitsL h (s1 ++ s2) (c1 ++ c2) := by
  refine ⟨by simp [h1.1, h2.1], fun j s v hs hv => ?_⟩
  by_cases hj : j < s1.length
  · rw [List.getElem?_append_left hj] at hs
    rw [List.getElem?_append_left (by have := h1.1; omega)] at hv
    exact h1.2 j s v hs hv
  · rw [List.getElem?_append_right (by omega)] at hs
    rw [List.getElem?_append_right (by have := h1.1; omega), h1.1] at hv
    exact h2.2 _ s v hs hv

/-- Cells of the machine have canonical ones. -/
def Canon (w : World) (shs : List Sh) (cs : List Value) : Prop :=
  ∀ (ρ : RM) (st : St), SRel w.heap.size ρ w st → ∃ ρ' l cs0, ρ.le ρ' ∧ SRel w.heap.size ρ' w ⟨st.h ++ l, st.fl⟩ ∧ LRel ρ' cs0 cs ∧ FitsL (st.h ++ l) shs cs0
theorem Canon.nil (w : World) : Canon w [] [] := fun ρ st h => ⟨ρ, [], [], RM.le_refl ρ, by simpa using h, LRel.nil ρ, FitsL.nil _⟩
theorem Canon.append {w : World} {s1 s2 : List Sh} {c1 c2 : List Value} (h1 : Canon w s1 c1) (h2 : Canon w s2 c2) : Canon w (s1 ++ s2) (c1 ++ c2) := by
  intro ρ st h
  obtain ⟨ρ1, l1, x1, a1, a2, a3, a4⟩ := h1 ρ st h
  obtain ⟨ρ2, l2, x2, b1, b2, b3, b4⟩ := h2 ρ1 ⟨st.h ++ l1, st.fl⟩ a2
  refine ⟨ρ2, l1 ++ l2, x1 ++ x2, RM.le_trans a1 b1, by rw [← List.append_assoc]; exact b2, (a3.mono b1).append b3, ?_⟩
  rw [← List.append_assoc]
  exact (a4.ext (Ext.snoc _ _)).append b4
theorem Canon.flat {w : World} {s : Sh} {v : Value} (hv : Ai.flat v = true) (he : isE v = false) (hf : ∀ h, Fits h s v) : Canon w [s] [v] := fun ρ st h =>
  ⟨ρ, [], [v], RM.le_refl ρ, by simpa using h, LRel.cons (.flat hv he) (LRel.nil ρ), ⟨rfl, fun j s' v' h1 h2 => by
    match j with
    | 0 => simp at h1 h2; subst h1 h2; exact hf _
    | j + 1 => simp at h1⟩⟩
theorem Canon.rep {w : World} {es : List Sh} {c : Nat → List Value} : ∀ n, (∀ i, i < n → Canon w es (c i)) → Canon w ((List.replicate n es).flatten) ((List.range n).flatMap c) := by
  intro n
  induction n with
  | zero => intro _; exact Canon.nil w
  | succ n ih =>
    intro h
    rw [List.range_succ, List.flatMap_append, List.replicate_succ', List.flatten_append]
    simp only [List.flatMap_cons, List.flatMap_nil, List.append_nil, List.flatten_cons, List.flatten_nil]
    exact (ih fun i hi => h i (by omega)).append (h n (by omega))

theorem cell_heap {w : World} {a : Addr} {v : Value} (h : w.cell? a = some v) : ∃ c e fz, w.heap[a.block]? = some (.cells c e fz) ∧ a.spot = none ∧ c[a.off]? = some v := by
  unfold World.cell? at h
  split at h
  · rename_i c e fz hc
    split at h
    · cases h
    · rename_i hs
      exact ⟨c, e, fz, hc, by simpa using hs, h⟩
  · cases h
theorem cells_heap {w : World} {base : Nat} {a : Addr} {n : Nat} {cs : List Value} (h : w.cells? base a n = some cs) (hn : 0 < n) :
    cs.length = n ∧ ∃ c e fz, w.heap[a.block]? = some (.cells c e fz) ∧ a.spot = none ∧ ∀ j, j < n → c[a.off + j]? = cs[j]? := by
  unfold World.cells? at h
  split at h
  · have hl := mapM_some_length h
    simp at hl
    have h0 := mapM_some_get h 0 0 (by simp [hn])
    have hc0 : (0 : Nat) < cs.length := by omega
    rw [show a.add 0 = a from by simp [Addr.add], List.getElem?_eq_getElem hc0] at h0
    obtain ⟨c, e, fz, h1, h2, h3⟩ := cell_heap h0
    refine ⟨hl, c, e, fz, h1, h2, fun j hj => ?_⟩
    have hj' := mapM_some_get h j j (by simp [hj])
    rw [List.getElem?_eq_getElem (by omega)] at hj' ⊢
    obtain ⟨c', e', fz', k1, k2, k3⟩ := cell_heap hj'
    have hb : (a.add j).block = a.block := by unfold Addr.add; split <;> rfl
    have ho : (a.add j).off = a.off + j := by unfold Addr.add; split <;> simp_all
    rw [hb, h1] at k1
    cases k1
    rw [ho] at k3
    exact k3
  · cases h

theorem CellsRel_of {ρ : RM} {c0 : List Value} {cs : Array Value} {sh : Nat} {c : List Value} (hr : LRel ρ c0 c) (hc : ∀ j, j < c.length → cs[sh + j]? = c[j]?) : CellsRel ρ c0 cs sh := fun i v hv => by
  obtain ⟨b, hb, hvb⟩ := hr.get hv
  have hi : i < c.length := (List.getElem?_eq_some_iff.1 hb).1
  exact ⟨b, by rw [hc i hi]; exact hb, hvb⟩

/-- A block that is read. -/
theorem SRel.addRead {w : World} {ρ : RM} {st : St} (hS : SRel w.heap.size ρ w st) {c0 c : List Value} {cs : Array Value} {e e' : TypeId} {fz : Nat × Nat} {b o : Nat} (hb : w.heap[b]? = some (.cells cs e' fz)) (hr : LRel ρ c0 c) (hc : ∀ j, j < c.length → cs[o + j]? = c[j]?) :
    SRel w.heap.size (upd ρ st.h.length ⟨b, o, 0, 0⟩) w ⟨st.h ++ [.cells c0 e none], st.fl⟩ ∧ ρ.le (upd ρ st.h.length ⟨b, o, 0, 0⟩) := by
  have hno : ρ st.h.length = none := hS.full.dom
  have hle : ρ.le (upd ρ st.h.length ⟨b, o, 0, 0⟩) := fun id l h => by
    unfold upd
    split
    · rename_i heq; rw [heq, hno] at h; cases h
    · exact h
  have hcase : ∀ id l, upd ρ st.h.length ⟨b, o, 0, 0⟩ id = some l → (id = st.h.length ∧ l = ⟨b, o, 0, 0⟩) ∨ (id < st.h.length ∧ ρ id = some l) := fun id l h => by
    unfold upd at h
    split at h
    · rename_i heq; cases h; exact .inl ⟨heq, rfl⟩
    · exact .inr ⟨hS.full id l h, h⟩
  have hold : ∀ id, id < st.h.length → hp (st.h ++ [.cells c0 e none]) id = hp st.h id := fun id h => by simp [hp, List.getD, List.getElem?_append_left h]
  have hnew : hp (st.h ++ [.cells c0 e none]) st.h.length = .cells c0 e none := by simp [hp, List.getD]
  have hblt : b < w.heap.size := (Array.getElem?_eq_some_iff.1 hb).1
  refine ⟨⟨⟨Nat.le_refl _, fun id l h => ?_, fun id l h hr' => ?_, fun id l h hr' => ?_, fun i j li lj hij hi hj hbb hB => ?_⟩, fun id l h => ?_⟩, hle⟩
  · rcases hcase id l h with ⟨rfl, rfl⟩ | ⟨h1, h2⟩
    · show CRel _ w _ (hp (st.h ++ [.cells c0 e none]) st.h.length)
      rw [hnew]
      exact ⟨cs, e', fz, hb, (CellsRel_of hr hc).mono hle, (fun s hs => by cases hs), fun _ => rfl⟩
    · show CRel _ w l (hp (st.h ++ [.cells c0 e none]) id)
      rw [hold id h1]
      exact (hS.mem.rel id l h2).mono hle
  · rcases hcase id l h with ⟨rfl, rfl⟩ | ⟨h1, h2⟩
    · exact hblt
    · have : hp (st.h ++ [.cells c0 e none]) id = hp st.h id := hold id h1
      exact hS.mem.ro id l h2 (by rw [← this]; exact hr')
  · rcases hcase id l h with ⟨rfl, rfl⟩ | ⟨h1, h2⟩
    · have h3 : (hp (st.h ++ [.cells c0 e none]) st.h.length).ro = false := hr'
      rw [hnew] at h3
      simp [O.ro] at h3
    · have : hp (st.h ++ [.cells c0 e none]) id = hp st.h id := hold id h1
      exact hS.mem.own id l h2 (by rw [← this]; exact hr')
  · have lt : ∀ id l, upd ρ st.h.length ⟨b, o, 0, 0⟩ id = some l → (∃ o', hp (st.h ++ [.cells c0 e none]) id = o' ∧ o'.ro = true) ∨ (id < st.h.length ∧ ρ id = some l) := fun id l h => by
      rcases hcase id l h with ⟨rfl, rfl⟩ | h
      · exact .inl ⟨_, hnew, rfl⟩
      · exact .inr h
    rcases hcase i li hi with ⟨rfl, rfl⟩ | ⟨h1, h2⟩
    · exact absurd hB (by simp; omega)
    · rcases hcase j lj hj with ⟨rfl, rfl⟩ | ⟨k1, k2⟩
      · have : li.b = b := hbb
        omega
      · show hp (st.h ++ [.cells c0 e none]) i = .dead
        rw [hold i h1]
        exact hS.mem.sep i j li lj hij h2 k2 hbb hB
  · rcases hcase id l h with ⟨rfl, rfl⟩ | ⟨h1, h2⟩
    · simp
    · simp; omega

theorem flatMap_len {α : Type} {c : Nat → List α} {sz : Nat} : ∀ n, (∀ i, i < n → (c i).length = sz) → ((List.range n).flatMap c).length = n * sz := by
  intro n
  induction n with
  | zero => intro _; simp
  | succ n ih =>
    intro h
    rw [List.range_succ, List.flatMap_append, List.length_append, ih fun i hi => h i (by omega)]
    simp [h n (by omega), Nat.add_mul]
theorem flatMap_get {α : Type} {c : Nat → List α} {sz : Nat} : ∀ n, (∀ i, i < n → (c i).length = sz) → ∀ i j, i < n → j < sz → ((List.range n).flatMap c)[i * sz + j]? = (c i)[j]? := by
  intro n
  induction n with
  | zero => intro _ i j hi; omega
  | succ n ih =>
    intro h i j hi hj
    have hl := flatMap_len n fun i hi => h i (by omega)
    rw [List.range_succ, List.flatMap_append]
    by_cases hin : i < n
    · have : i * sz + j < n * sz := by
        have : (i + 1) * sz ≤ n * sz := Nat.mul_le_mul_right sz (by omega)
        rw [Nat.add_mul] at this
        omega
      rw [List.getElem?_append_left (by rw [hl]; exact this)]
      exact ih (fun i hi => h i (by omega)) i j hin hj
    · have : i = n := by omega
      subst this
      rw [List.getElem?_append_right (by rw [hl]; omega), hl]
      simp
theorem split_index {n sz k : Nat} (hk : k < n * sz) : ∃ i j, k = i * sz + j ∧ i < n ∧ j < sz := by
  have hsz : 0 < sz := by
    rcases Nat.eq_zero_or_pos sz with h | h
    · subst h; simp at hk
    · exact h
  refine ⟨k / sz, k % sz, by rw [Nat.mul_comm]; exact (Nat.div_add_mod k sz).symm, ?_, Nat.mod_lt _ hsz⟩
  rw [Nat.div_lt_iff_lt_mul hsz]; exact hk
theorem repl_flat {α : Type} (n : Nat) (es : List α) : (List.replicate n es).flatten = (List.range n).flatMap fun _ => es := by
  induction n with
  | zero => rfl
  | succ n ih =>
    rw [List.replicate_succ', List.flatten_append, ih, List.range_succ, List.flatMap_append]
    simp

section
variable {H : Type} {enc : TypeId × Value → H} {P : Program} {w : World}

theorem canon_slice {es : List Sh} (hes : 0 < es.length) {a : Addr} {len cap : Nat} (hlc : len ≤ cap) (hlen : len ≤ reachBytes) {ci : Nat → List Value} (hc : ∀ i, i < len → w.cells? 0 (a.add (i * es.length)) es.length = some (ci i)) (hcan : ∀ i, i < len → Canon w es (ci i))
    (hcap : 0 < cap → ∃ cs, w.cells? 0 a es.length = some cs) : Canon w [.slice es] [.slice (some a) len cap] := by
  intro ρ st hS
  by_cases h0 : cap = 0
  · have : len = 0 := by omega
    subst h0 this
    exact ⟨ρ, [], [emptyS], RM.le_refl ρ, by simpa using hS, LRel.cons (.empty a) (LRel.nil ρ), ⟨rfl, fun j s v h1 h2 => by
      match j with
      | 0 => simp at h1 h2; subst h1 h2; exact .slice 0 0 (fun _ => []) (Nat.zero_le _) (fun h => absurd h (Nat.lt_irrefl _)) (fun i hi => absurd hi (Nat.not_lt_zero _)) (fun i j s v hi => absurd hi (Nat.not_lt_zero _))
      | j + 1 => simp at h1⟩⟩
  · obtain ⟨cs0, hi0⟩ := hcap (by omega)
    obtain ⟨_, cb, eb, fzb, hb0, hsp, _⟩ := cells_heap hi0 hes
    have hblk : ∀ k, (a.add k).block = a.block := fun k => by unfold Addr.add; split <;> rfl
    have hoff : ∀ k, (a.add k).off = a.off + k := fun k => by unfold Addr.add; split <;> simp_all
    obtain ⟨ρ1, l1, c0, a1, a2, a3, a4⟩ := Canon.rep len hcan ρ st hS
    have hcl : ∀ i, i < len → (ci i).length = es.length := fun i hi => (cells_heap (hc i hi) hes).1
    have hfl := flatMap_len len hcl
    have hmem : ∀ j, j < ((List.range len).flatMap ci).length → cb[a.off + j]? = ((List.range len).flatMap ci)[j]? := fun k hk => by
      rw [hfl] at hk
      obtain ⟨i, j, rfl, hi, hj⟩ := split_index hk
      rw [flatMap_get len hcl i j hi hj]
      obtain ⟨_, c2, e2, fz2, k1, _, k3⟩ := cells_heap (hc i hi) hes
      rw [hblk, hb0] at k1
      cases k1
      have := k3 j hj
      rw [hoff, Nat.add_assoc] at this
      exact this
    obtain ⟨hS2, hle2⟩ := a2.addRead (e := 0) hb0 a3 hmem
    have hc0 : c0.length = len * es.length := by rw [a3.1, hfl]
    refine ⟨upd ρ1 (st.h ++ l1).length ⟨a.block, a.off, 0, 0⟩, l1 ++ [.cells c0 0 none], [.slice (some ⟨(st.h ++ l1).length, 0, none⟩) len cap], RM.le_trans a1 hle2, by rw [← List.append_assoc]; exact hS2, LRel.cons ?_ (LRel.nil _), ⟨rfl, fun j s v h1 h2 => ?_⟩⟩
    · have ha : a = ⟨a.block, a.off, none⟩ := by rw [← hsp]
      rw [ha]
      exact .slice (l := ⟨a.block, a.off, 0, 0⟩) (by simp [upd]) (Nat.le_refl _) (.inl rfl) hlc (.inl rfl)
    · match j with
      | 0 =>
        simp at h1 h2
        subst h1 h2
        rw [← List.append_assoc]
        have hrd : ∀ i, i < len → rdN (st.h ++ l1 ++ [.cells c0 0 none]) (st.h ++ l1).length (0 + i * es.length) es.length = some ((c0.drop (i * es.length)).take es.length) := fun i hi => by
          have : (i + 1) * es.length ≤ len * es.length := Nat.mul_le_mul_right _ (by omega)
          rw [Nat.add_mul] at this
          rw [rdN_append_right0, rdN_cells, Nat.zero_add, if_pos (by omega)]
        have := Fits.slice (h := st.h ++ l1 ++ [.cells c0 0 none]) (es := es) (a := some ⟨(st.h ++ l1).length, 0, none⟩) (n := len) (c := cap) (st.h ++ l1).length 0 (fun i => (c0.drop (i * es.length)).take es.length) hlen (fun _ => rfl) hrd (fun i j s v hi h1 h2 => by
          have hj : j < es.length := (List.getElem?_eq_some_iff.1 h1).1
          rw [List.getElem?_take_of_lt hj, List.getElem?_drop] at h2
          refine (a4.2 (i * es.length + j) s v ?_ h2).ext (Ext.snoc _ _)
          rw [repl_flat, flatMap_get len (fun _ _ => rfl) i j hi hj]
          exact h1)
        simpa using this
      | j + 1 => simp at h1

theorem canon_fields {d : Nat} {sh : TypeId → Option (List Sh)} {cs : List Value} : ∀ (fs : List Field) (off : Nat) (shs : List Sh), shapesFs P sh off fs = some shs → cs.length = off + shs.length →
    (∀ f ∈ fs, ∀ m, sh f.type = some m → Canon w m ((cs.drop f.offset).take (P.cellsOf f.type))) → Canon w shs (cs.drop off) := by
  intro fs
  induction fs with
  | nil =>
    intro off shs hsh hl _
    simp only [shapesFs, Option.some.injEq] at hsh
    subst hsh
    rw [List.drop_of_length_le (by simp at hl; omega)]
    exact Canon.nil w
  | cons f fs ih =>
    intro off shs hsh hl hf
    simp only [shapesFs] at hsh
    split at hsh
    · rename_i m hm
      split at hsh
      · rename_i hoff
        obtain ⟨rfl, hce⟩ := hoff
        simp only [Option.map_eq_some_iff] at hsh
        obtain ⟨s2, h2, rfl⟩ := hsh
        rw [List.length_append] at hl
        have h1 := hf f (by simp) m hm
        rw [hce] at h1
        have h3 := ih _ _ h2 (by omega) fun g hg => hf g (by simp [hg])
        have e : cs.drop f.offset = (cs.drop f.offset).take m.length ++ cs.drop (f.offset + m.length) := by
          rw [← List.drop_drop, List.take_append_drop]
        rw [e]
        exact h1.append h3
      · cases hsh
    · cases hsh

theorem canon : ∀ (d : Nat) (fuel : Nat) (t : TypeId) (cs : List Value) (x : DataW H × List MemPlace) (shs : List Sh), shapes P d t = some shs → DataW.trod enc P w 0 (fun _ => true) true fuel t cs = some x →
    (∀ n ∈ x.1.weights P t, n ≤ reachBytes) → Canon w shs cs := by
  intro d
  induction d with
  | zero => intro fuel t cs x shs h; simp [shapes] at h
  | succ d ih =>
    intro fuel t cs x shs hsh hx hwt
    simp only [shapes] at hsh
    split at hsh
    · rename_i k ht
      obtain rfl := Option.some.inj hsh
      obtain ⟨n, rfl, rfl, hwf⟩ := DataW.trod_int ht hx
      exact Canon.flat rfl rfl fun h => .int hwf
    · rename_i ht
      obtain rfl := Option.some.inj hsh
      obtain ⟨b, rfl, rfl⟩ := DataW.trod_bool ht hx
      exact Canon.flat rfl rfl fun h => .bool
    · rename_i e ht
      split at hsh
      · rename_i es hes
        split at hsh
        · rename_i hcond
          obtain rfl := Option.some.inj hsh
          obtain ⟨hce, hpos, hby⟩ := hcond
          rcases DataW.trod_slice ht hx with ⟨rfl, rfl⟩ | ⟨a, len, cap, elems, rest, n, rfl, rfl, rfl, _, hlc, _, hel, hi, hspare, _⟩
          · exact Canon.flat rfl rfl fun h => .slice 0 0 (fun _ => []) (Nat.zero_le _) (fun h => absurd h (Nat.lt_irrefl _)) (fun i hi => absurd hi (Nat.not_lt_zero _)) (fun i j s v hi => absurd hi (Nat.not_lt_zero _))
          · obtain ⟨hr1, hr2⟩ := hspare rfl
            rw [hce] at hi hr2
            have hwt1 : (elems.length + rest.length) * P.bytesOf e ≤ reachBytes := by
              have := hwt ((elems.length + rest.length) * P.bytesOf e) (by simp [DataW.weights, ht])
              exact this
            have hlen : len ≤ reachBytes := by
              have : (elems.length + rest.length) * 1 ≤ (elems.length + rest.length) * P.bytesOf e := Nat.mul_le_mul_left _ hby
              omega
            have hsome : ∀ i, i < len → ∃ c y, w.cells? 0 (a.add (i * es.length)) es.length = some c ∧ DataW.trod enc P w 0 (fun _ => true) true n e c = some y ∧ y ∈ elems := fun i hil => by
              have := hi i hil
              rw [List.getElem?_eq_getElem (by omega)] at this
              simp only [Option.bind_eq_some_iff] at this
              obtain ⟨c, h1, h2⟩ := this
              exact ⟨c, _, h1, h2, List.getElem_mem _⟩
            refine canon_slice hpos hlc hlen (ci := fun i => if hil : i < len then (hsome i hil).choose else []) (fun i hil => ?_) (fun i hil => ?_) (fun hcap => ?_)
            · simp only [hil, dif_pos]
              obtain ⟨y, h1, _⟩ := (hsome i hil).choose_spec
              exact h1
            · simp only [hil, dif_pos]
              obtain ⟨y, h1, h2, h3⟩ := (hsome i hil).choose_spec
              refine ih n e _ y es hes h2 fun m hm => hwt m ?_
              simp only [DataW.weights, ht, List.mem_cons, List.mem_append]
              refine .inr (.inl ?_)
              have key : ∀ (l : List (DataW H × List MemPlace)), y ∈ l → m ∈ DataW.weightsAll P e (l.map (·.1)) := by
                intro l
                induction l with
                | nil => intro h; cases h
                | cons z l ihl =>
                  intro h
                  simp only [List.map_cons, DataW.weightsAll, List.mem_append]
                  rcases List.mem_cons.1 h with rfl | h
                  · exact .inl hm
                  · exact .inr (ihl h)
              exact key elems h3
            · rcases Nat.eq_zero_or_pos len with h0 | h0
              · subst h0
                have := hr2 0 (by omega)
                rw [List.getElem?_eq_getElem (by omega)] at this
                simp only [Option.bind_eq_some_iff] at this
                obtain ⟨c, h1, _⟩ := this
                exact ⟨c, by simpa [Addr.add] using h1⟩
              · obtain ⟨c, _, h1, _⟩ := hsome 0 h0
                exact ⟨c, by simpa [Addr.add] using h1⟩
        · cases hsh
      · cases hsh
    · rename_i fs ht
      split at hsh
      · rename_i l hl
        split at hsh
        · rename_i hcl
          obtain rfl := Option.some.inj hsh
          obtain ⟨xs, n, rfl, rfl, hlen, hxs, hf⟩ := DataW.trod_struct ht hx
          have := canon_fields (w := w) (P := P) (d := d) (sh := shapes P d) (cs := cs) fs.toList 0 l hl (by omega) fun f hfm m hm => by
            obtain ⟨i, hi, hfi⟩ := List.mem_iff_getElem.1 hfm
            have hi' : i < fs.size := by simpa using hi
            have h1 := hf i f (by rw [Array.getElem?_eq_getElem hi']; simpa using hfi)
            rw [List.getElem?_eq_getElem (by omega)] at h1
            refine ih n f.type _ _ m hm h1 fun k hk => hwt k ?_
            simp only [DataW.weights, ht]
            refine DataW.weights_mem_each (j := i) (t := f.type) (d := (xs[i]).1) ?_ ?_ k hk
            · rw [List.getElem?_map, List.getElem?_eq_getElem hi, hfi]; rfl
            · simp [List.getElem?_eq_getElem (show i < xs.length by omega)]
          simpa using this
        · cases hsh
      · cases hsh
    · rename_i n e ht
      split at hsh
      · rename_i es hes
        split at hsh
        · rename_i hcond
          obtain rfl := Option.some.inj hsh
          obtain ⟨hce, hct⟩ := hcond
          cases fuel with
          | zero => simp [DataW.trod] at hx
          | succ fuel =>
            unfold DataW.trod at hx
            rw [ht] at hx
            have hx' : (if cs.length = P.cellsOf t then ((List.range n).mapM fun i => DataW.trod enc P w 0 (fun _ => true) true fuel e ((cs.drop (i * P.cellsOf e)).take (P.cellsOf e))).map fun xs => (DataW.agg (xs.map (·.1)), xs.flatMap (·.2)) else none) = some x := by
              revert hx
              split <;> simp_all
            split at hx'
            · rename_i hcl
              simp only [Option.map_eq_some_iff] at hx'
              obtain ⟨xs, hxs, rfl⟩ := hx'
              have hxl := mapM_some_length hxs
              simp at hxl
              rw [hce] at hxs
              have hlen : cs.length = n * es.length := by omega
              have hpart : ∀ i, i < n → Canon w es ((cs.drop (i * es.length)).take es.length) := fun i hi => by
                have h1 := mapM_some_get hxs i i (by simp [hi])
                rw [List.getElem?_eq_getElem (by omega)] at h1
                refine ih fuel e _ _ es hes h1 fun k hk => hwt k ?_
                simp only [DataW.weights, ht]
                have key : ∀ (l : List (DataW H × List MemPlace)) y, y ∈ l → k ∈ y.1.weights P e → k ∈ DataW.weightsAll P e (l.map (·.1)) := by
                  intro l
                  induction l with
                  | nil => intro y h; cases h
                  | cons z l ihl =>
                    intro y h hm
                    simp only [List.map_cons, DataW.weightsAll, List.mem_append]
                    rcases List.mem_cons.1 h with rfl | h
                    · exact .inl hm
                    · exact .inr (ihl y h hm)
                exact key xs _ (List.getElem_mem _) hk
              have := Canon.rep n hpart
              have e2 : (List.range n).flatMap (fun i => (cs.drop (i * es.length)).take es.length) = cs := by
                have hpl : ∀ i, i < n → ((cs.drop (i * es.length)).take es.length).length = es.length := fun i hi => by
                  have : (i + 1) * es.length ≤ n * es.length := Nat.mul_le_mul_right _ (by omega)
                  rw [Nat.add_mul] at this
                  simp; omega
                apply List.ext_getElem?
                intro k
                by_cases hk : k < n * es.length
                · obtain ⟨i, j, rfl, hi, hj⟩ := split_index hk
                  rw [flatMap_get n hpl i j hi hj, List.getElem?_take_of_lt hj, List.getElem?_drop]
                · rw [List.getElem?_eq_none (by rw [flatMap_len n hpl]; omega), List.getElem?_eq_none (by omega)]
              rw [e2] at this
              exact this
            · cases hx'
        · cases hsh
      · cases hsh
    · cases hsh
end
end Go.Ai
