/- Texts that were built one by one: AiN, AiM. -/
import Derived.Test.YtjlkndkedknocaaMd
import Derived.Test.YtjlkndkedknocaaMc
import Derived.ChangeArms
import Derived.SizedLaws
import Derived.ChangeReads
import Derived.ChangeOld
import Derived.ChangeSame
import Derived.ChangeShapes
import Derived.RowKit
import Derived.DataShut
namespace Go.Ai
set_option linter.unusedSimpArgs false
set_option linter.unusedVariables false

/-- What a cell holds. -/
inductive Sh where
  | int (k : IntKind)
  | bool
  | slice (es : List Sh)

/-- How many bytes an element has at least. -/
def szB : List Sh → Nat
  | [.int .i64] => 8
  | [.slice _] => 24
  | [.int .i64, .int .i64, .int .i64, .int .i64, .int .i64] => 40
  | _ => 1
theorem szB_pos (es : List Sh) : 1 ≤ szB es := by
  unfold szB; split <;> omega
def shapesFs (P : Program) (sh : TypeId → Option (List Sh)) : Nat → List Field → Option (List Sh)
  | _, [] => some []
  | off, f :: fs => match sh f.type with
    | some m => if f.offset = off ∧ P.cellsOf f.type = m.length then (shapesFs P sh (off + m.length) fs).map (m ++ ·) else none
    | none => none
/-- The cells of a plain type. -/
def shapes (P : Program) : Nat → TypeId → Option (List Sh)
  | 0, _ => none
  | d + 1, t => match P.underlying t with
    | some (.int k) => some [.int k]
    | some .bool => some [.bool]
    | some (.slice e) => match shapes P d e with
      | some es => if P.cellsOf e = es.length ∧ 0 < es.length ∧ szB es ≤ P.bytesOf e then some [.slice es] else none
      | none => none
    | some (.struct fs) => match shapesFs P (shapes P d) 0 fs.toList with
      | some l => if P.cellsOf t = l.length then some l else none
      | none => none
    | some (.array n e) => match shapes P d e with
      | some es => if P.cellsOf e = es.length ∧ P.cellsOf t = n * es.length then some ((List.replicate n es).flatten) else none
      | none => none
    | _ => none

inductive Fits (h : List O) : Sh → Value → Prop
  | int {k n} : (Lit.int k n).wf = true → Fits h (.int k) (.int k n)
  | bool {b} : Fits h .bool (.bool b)
  | slice {es a n c} (b o : Nat) (vs : Nat → List Value) : n * szB es ≤ reachBytes ∧ n ≤ c ∧ (∀ b' o', a = some ⟨b', o', none⟩ → ∀ k, tagOk h k b' = true) → (0 < n → a = some ⟨b, o, none⟩) → (∀ i, i < n → rdN h b (o + i * es.length) es.length = some (vs i)) →
      (∀ (i j : Nat) (s : Sh) (v : Value), i < n → es[j]? = some s → (vs i)[j]? = some v → Fits h s v) → Fits h (.slice es) (.slice a n c)
theorem tagOk_ext {h h' : List O} (e : Ext h h') {k b : Nat} (ht : tagOk h k b = true) : tagOk h' k b = true := by
  obtain ⟨x, rfl⟩ := e
  unfold tagOk at ht ⊢
  cases hb : h[b]? with
  | none => rw [hb] at ht; simp at ht
  | some y => rw [List.getElem?_append_left (List.getElem?_eq_some_iff.1 hb).1, hb]; rw [hb] at ht; exact ht
theorem Fits.ext {h h' : List O} (k : Ext h h') {s : Sh} {v : Value} (hf : Fits h s v) : Fits h' s v := by
  induction hf with
  | int hw => exact .int hw
  | bool => exact .bool
  | slice b o vs h1 h2 h3 _ ih => exact .slice b o vs ⟨h1.1, h1.2.1, fun b' o' ha j => tagOk_ext k (h1.2.2 b' o' ha j)⟩ h2 (fun i hi => k.rdN (h3 i hi)) ih
def FitsL (h : List O) (shs : List Sh) (cs : List Value) : Prop := cs.length = shs.length ∧ ∀ (j : Nat) s v, shs[j]? = some s → cs[j]? = some v → Fits h s v
theorem FitsL.ext {h h' : List O} (k : Ext h h') {shs : List Sh} {cs : List Value} (hf : FitsL h shs cs) : FitsL h' shs cs := ⟨hf.1, fun j s v h1 h2 => (hf.2 j s v h1 h2).ext k⟩
theorem FitsL.nil (h : List O) : FitsL h [] [] := ⟨rfl, fun j s v h1 => by simp at h1⟩
theorem FitsL.append {h : List O} {s1 s2 : List Sh} {c1 c2 : List Value} (h1 : FitsL h s1 c1) (h2 : FitsL h s2 c2) : FitsL h (s1 ++ s2) (c1 ++ c2) := by
  refine ⟨by simp [h1.1, h2.1], fun j s v hs hv => ?_⟩
  by_cases hj : j < s1.length
  · rw [List.getElem?_append_left hj] at hs
    rw [List.getElem?_append_left (by have := h1.1; omega)] at hv
    exact h1.2 j s v hs hv
  · rw [List.getElem?_append_right (by omega)] at hs
    rw [List.getElem?_append_right (by have := h1.1; omega), h1.1] at hv
    exact h2.2 _ s v hs hv

/-- Cells of the machine have canonical ones. -/
def Canon (w : World) (shs : List Sh) (cs : List Value) : Prop :=
  ∀ (ρ : RM) (st : St), SRel w.heap.size ρ w st → ∃ ρ' l cs0, ρ.le ρ' ∧ SRel w.heap.size ρ' w ⟨st.h ++ l, st.fl⟩ ∧ LRel ρ' cs0 cs ∧ FitsL (st.h ++ l) shs cs0
theorem Canon.nil (w : World) : Canon w [] [] := fun ρ st h => ⟨ρ, [], [], RM.le_refl ρ, by simpa using h, LRel.nil ρ, FitsL.nil _⟩
theorem Canon.append {w : World} {s1 s2 : List Sh} {c1 c2 : List Value} (h1 : Canon w s1 c1) (h2 : Canon w s2 c2) : Canon w (s1 ++ s2) (c1 ++ c2) := by
  intro ρ st h
  obtain ⟨ρ1, l1, x1, a1, a2, a3, a4⟩ := h1 ρ st h
  obtain ⟨ρ2, l2, x2, b1, b2, b3, b4⟩ := h2 ρ1 ⟨st.h ++ l1, st.fl⟩ a2
  refine ⟨ρ2, l1 ++ l2, x1 ++ x2, RM.le_trans a1 b1, by rw [← List.append_assoc]; exact b2, (a3.mono b1).append b3, ?_⟩
  rw [← List.append_assoc]
  exact (a4.ext (Ext.snoc _ _)).append b4
theorem Canon.flat {w : World} {s : Sh} {v : Value} (hv : Ai.flat v = true) (he : isE v = false) (hf : ∀ h, Fits h s v) : Canon w [s] [v] := fun ρ st h =>
  ⟨ρ, [], [v], RM.le_refl ρ, by simpa using h, LRel.cons (.flat hv he) (LRel.nil ρ), ⟨rfl, fun j s' v' h1 h2 => by
    match j with
    | 0 => simp at h1 h2; subst h1 h2; exact hf _
    | j + 1 => simp at h1⟩⟩
theorem Canon.rep {w : World} {es : List Sh} {c : Nat → List Value} : ∀ n, (∀ i, i < n → Canon w es (c i)) → Canon w ((List.replicate n es).flatten) ((List.range n).flatMap c) := by
  intro n
  induction n with
  | zero => intro _; exact Canon.nil w
  | succ n ih =>
    intro h
    rw [List.range_succ, List.flatMap_append, List.replicate_succ', List.flatten_append]
    simp only [List.flatMap_cons, List.flatMap_nil, List.append_nil, List.flatten_cons, List.flatten_nil]
    exact (ih fun i hi => h i (by omega)).append (h n (by omega))

theorem cell_heap {w : World} {a : Addr} {v : Value} (h : w.cell? a = some v) : ∃ c e fz, w.heap[a.block]? = some (.cells c e fz) ∧ a.spot = none ∧ c[a.off]? = some v := by
  unfold World.cell? at h
  split at h
  · rename_i c e fz hc
    split at h
    · cases h
    · rename_i hs
      exact ⟨c, e, fz, hc, by simpa using hs, h⟩
  · cases h
theorem cells_heap {w : World} {base : Nat} {a : Addr} {n : Nat} {cs : List Value} (h : w.cells? base a n = some cs) (hn : 0 < n) :
    cs.length = n ∧ ∃ c e fz, w.heap[a.block]? = some (.cells c e fz) ∧ a.spot = none ∧ ∀ j, j < n → c[a.off + j]? = cs[j]? := by
  unfold World.cells? at h
  split at h
  · have hl := mapM_some_length h
    simp at hl
    have h0 := mapM_some_get h 0 0 (by simp [hn])
    have hc0 : (0 : Nat) < cs.length := by omega
    rw [show a.add 0 = a from by simp [Addr.add], List.getElem?_eq_getElem hc0] at h0
    obtain ⟨c, e, fz, h1, h2, h3⟩ := cell_heap h0
    refine ⟨hl, c, e, fz, h1, h2, fun j hj => ?_⟩
    have hj' := mapM_some_get h j j (by simp [hj])
    rw [List.getElem?_eq_getElem (by omega)] at hj' ⊢
    obtain ⟨c', e', fz', k1, k2, k3⟩ := cell_heap hj'
    have hb : (a.add j).block = a.block := by unfold Addr.add; split <;> rfl
    have ho : (a.add j).off = a.off + j := by unfold Addr.add; split <;> simp_all
    rw [hb, h1] at k1
    cases k1
    rw [ho] at k3
    exact k3
  · cases h

theorem CellsRel_of {ρ : RM} {c0 : List Value} {cs : Array Value} {sh : Nat} {c : List Value} (hr : LRel ρ c0 c) (hc : ∀ j, j < c.length → cs[sh + j]? = c[j]?) : CellsRel ρ c0 cs sh := fun i v hv => by
  obtain ⟨b, hb, hvb⟩ := hr.get hv
  have hi : i < c.length := (List.getElem?_eq_some_iff.1 hb).1
  exact ⟨b, by rw [hc i hi]; exact hb, hvb⟩

/-- A block that is read. -/
theorem SRel.addRead {w : World} {ρ : RM} {st : St} (hS : SRel w.heap.size ρ w st) {c0 c : List Value} {cs : Array Value} {e e' : TypeId} {fz : Nat × Nat} {b o : Nat} (hb : w.heap[b]? = some (.cells cs e' fz)) (hr : LRel ρ c0 c) (hc : ∀ j, j < c.length → cs[o + j]? = c[j]?) :
    SRel w.heap.size (upd ρ st.h.length ⟨b, o, 0, 0⟩) w ⟨st.h ++ [.cells c0 e none], st.fl⟩ ∧ ρ.le (upd ρ st.h.length ⟨b, o, 0, 0⟩) := by
  have hno : ρ st.h.length = none := hS.full.dom
  have hle : ρ.le (upd ρ st.h.length ⟨b, o, 0, 0⟩) := fun id l h => by
    unfold upd
    split
    · rename_i heq; rw [heq, hno] at h; cases h
    · exact h
  have hcase : ∀ id l, upd ρ st.h.length ⟨b, o, 0, 0⟩ id = some l → (id = st.h.length ∧ l = ⟨b, o, 0, 0⟩) ∨ (id < st.h.length ∧ ρ id = some l) := fun id l h => by
    unfold upd at h
    split at h
    · rename_i heq; cases h; exact .inl ⟨heq, rfl⟩
    · exact .inr ⟨hS.full id l h, h⟩
  have hold : ∀ id, id < st.h.length → hp (st.h ++ [.cells c0 e none]) id = hp st.h id := fun id h => by simp [hp, List.getD, List.getElem?_append_left h]
  have hnew : hp (st.h ++ [.cells c0 e none]) st.h.length = .cells c0 e none := by simp [hp, List.getD]
  have hblt : b < w.heap.size := (Array.getElem?_eq_some_iff.1 hb).1
  refine ⟨⟨⟨Nat.le_refl _, fun id l h => ?_, fun id l h hr' => ?_, fun id l h hr' => ?_, fun i j li lj hij hi hj hbb hB => ?_⟩, fun id l h => ?_⟩, hle⟩
  · rcases hcase id l h with ⟨rfl, rfl⟩ | ⟨h1, h2⟩
    · show CRel _ w _ (hp (st.h ++ [.cells c0 e none]) st.h.length)
      rw [hnew]
      exact ⟨cs, e', fz, hb, (CellsRel_of hr hc).mono hle, (fun s hs => by cases hs), fun _ => rfl⟩
    · show CRel _ w l (hp (st.h ++ [.cells c0 e none]) id)
      rw [hold id h1]
      exact (hS.mem.rel id l h2).mono hle
  · rcases hcase id l h with ⟨rfl, rfl⟩ | ⟨h1, h2⟩
    · exact hblt
    · have : hp (st.h ++ [.cells c0 e none]) id = hp st.h id := hold id h1
      exact hS.mem.ro id l h2 (by rw [← this]; exact hr')
  · rcases hcase id l h with ⟨rfl, rfl⟩ | ⟨h1, h2⟩
    · have h3 : (hp (st.h ++ [.cells c0 e none]) st.h.length).ro = false := hr'
      rw [hnew] at h3
      simp [O.ro] at h3
    · have : hp (st.h ++ [.cells c0 e none]) id = hp st.h id := hold id h1
      exact hS.mem.own id l h2 (by rw [← this]; exact hr')
  · have lt : ∀ id l, upd ρ st.h.length ⟨b, o, 0, 0⟩ id = some l → (∃ o', hp (st.h ++ [.cells c0 e none]) id = o' ∧ o'.ro = true) ∨ (id < st.h.length ∧ ρ id = some l) := fun id l h => by
      rcases hcase id l h with ⟨rfl, rfl⟩ | h
      · exact .inl ⟨_, hnew, rfl⟩
      · exact .inr h
    rcases hcase i li hi with ⟨rfl, rfl⟩ | ⟨h1, h2⟩
    · exact absurd hB (by simp; omega)
    · rcases hcase j lj hj with ⟨rfl, rfl⟩ | ⟨k1, k2⟩
      · have : li.b = b := hbb
        omega
      · show hp (st.h ++ [.cells c0 e none]) i = .dead
        rw [hold i h1]
        exact hS.mem.sep i j li lj hij h2 k2 hbb hB
  · rcases hcase id l h with ⟨rfl, rfl⟩ | ⟨h1, h2⟩
    · simp
    · simp; omega

theorem flatMap_len {α : Type} {c : Nat → List α} {sz : Nat} : ∀ n, (∀ i, i < n → (c i).length = sz) → ((List.range n).flatMap c).length = n * sz := by
  intro n
  induction n with
  | zero => intro _; simp
  | succ n ih =>
    intro h
    rw [List.range_succ, List.flatMap_append, List.length_append, ih fun i hi => h i (by omega)]
    simp [h n (by omega), Nat.add_mul]
theorem flatMap_get {α : Type} {c : Nat → List α} {sz : Nat} : ∀ n, (∀ i, i < n → (c i).length = sz) → ∀ i j, i < n → j < sz → ((List.range n).flatMap c)[i * sz + j]? = (c i)[j]? := by
  intro n
  induction n with
  | zero => intro _ i j hi; omega
  | succ n ih =>
    intro h i j hi hj
    have hl := flatMap_len n fun i hi => h i (by omega)
    rw [List.range_succ, List.flatMap_append]
    by_cases hin : i < n
    · have : i * sz + j < n * sz := by
        have : (i + 1) * sz ≤ n * sz := Nat.mul_le_mul_right sz (by omega)
        rw [Nat.add_mul] at this
        omega
      rw [List.getElem?_append_left (by rw [hl]; exact this)]
      exact ih (fun i hi => h i (by omega)) i j hin hj
    · have : i = n := by omega
      subst this
      rw [List.getElem?_append_right (by rw [hl]; omega), hl]
      simp
theorem split_index {n sz k : Nat} (hk : k < n * sz) : ∃ i j, k = i * sz + j ∧ i < n ∧ j < sz := by
  have hsz : 0 < sz := by
    rcases Nat.eq_zero_or_pos sz with h | h
    · subst h; simp at hk
    · exact h
  refine ⟨k / sz, k % sz, by rw [Nat.mul_comm]; exact (Nat.div_add_mod k sz).symm, ?_, Nat.mod_lt _ hsz⟩
  rw [Nat.div_lt_iff_lt_mul hsz]; exact hk
theorem repl_flat {α : Type} (n : Nat) (es : List α) : (List.replicate n es).flatten = (List.range n).flatMap fun _ => es := by
  induction n with
  | zero => rfl
  | succ n ih =>
    rw [List.replicate_succ', List.flatten_append, ih, List.range_succ, List.flatMap_append]
    simp

section
variable {H : Type} {enc : TypeId × Value → H} {P : Program} {w : World}

theorem canon_slice {es : List Sh} (hes : 0 < es.length) {a : Addr} {len cap : Nat} (hlc : len ≤ cap) (hlen : len * szB es ≤ reachBytes) {ci : Nat → List Value} (hc : ∀ i, i < len → w.cells? 0 (a.add (i * es.length)) es.length = some (ci i)) (hcan : ∀ i, i < len → Canon w es (ci i))
    (hcap : 0 < cap → ∃ cs, w.cells? 0 a es.length = some cs) : Canon w [.slice es] [.slice (some a) len cap] := by
  intro ρ st hS
  by_cases h0 : cap = 0
  · have : len = 0 := by omega
    subst h0 this
    exact ⟨ρ, [], [emptyS], RM.le_refl ρ, by simpa using hS, LRel.cons (.empty a) (LRel.nil ρ), ⟨rfl, fun j s v h1 h2 => by
      match j with
      | 0 => simp at h1 h2; subst h1 h2; exact .slice 0 0 (fun _ => []) ⟨by simp, Nat.le_refl _, fun b' o' h => by cases h⟩ (fun h => absurd h (Nat.lt_irrefl _)) (fun i hi => absurd hi (Nat.not_lt_zero _)) (fun i j s v hi => absurd hi (Nat.not_lt_zero _))
      | j + 1 => simp at h1⟩⟩
  · obtain ⟨cs0, hi0⟩ := hcap (by omega)
    obtain ⟨_, cb, eb, fzb, hb0, hsp, _⟩ := cells_heap hi0 hes
    have hblk : ∀ k, (a.add k).block = a.block := fun k => by unfold Addr.add; split <;> rfl
    have hoff : ∀ k, (a.add k).off = a.off + k := fun k => by unfold Addr.add; split <;> simp_all
    obtain ⟨ρ1, l1, c0, a1, a2, a3, a4⟩ := Canon.rep len hcan ρ st hS
    have hcl : ∀ i, i < len → (ci i).length = es.length := fun i hi => (cells_heap (hc i hi) hes).1
    have hfl := flatMap_len len hcl
    have hmem : ∀ j, j < ((List.range len).flatMap ci).length → cb[a.off + j]? = ((List.range len).flatMap ci)[j]? := fun k hk => by
      rw [hfl] at hk
      obtain ⟨i, j, rfl, hi, hj⟩ := split_index hk
      rw [flatMap_get len hcl i j hi hj]
      obtain ⟨_, c2, e2, fz2, k1, _, k3⟩ := cells_heap (hc i hi) hes
      rw [hblk, hb0] at k1
      cases k1
      have := k3 j hj
      rw [hoff, Nat.add_assoc] at this
      exact this
    obtain ⟨hS2, hle2⟩ := a2.addRead (e := 0) hb0 a3 hmem
    have hc0 : c0.length = len * es.length := by rw [a3.1, hfl]
    refine ⟨upd ρ1 (st.h ++ l1).length ⟨a.block, a.off, 0, 0⟩, l1 ++ [.cells c0 0 none], [.slice (some ⟨(st.h ++ l1).length, 0, none⟩) len cap], RM.le_trans a1 hle2, by rw [← List.append_assoc]; exact hS2, LRel.cons ?_ (LRel.nil _), ⟨rfl, fun j s v h1 h2 => ?_⟩⟩
    · have ha : a = ⟨a.block, a.off, none⟩ := by rw [← hsp]
      rw [ha]
      exact .slice (l := ⟨a.block, a.off, 0, 0⟩) (by simp [upd]) (Nat.le_refl _) (.inl rfl) hlc (.inl rfl)
    · match j with
      | 0 =>
        simp at h1 h2
        subst h1 h2
        rw [← List.append_assoc]
        have hrd : ∀ i, i < len → rdN (st.h ++ l1 ++ [.cells c0 0 none]) (st.h ++ l1).length (0 + i * es.length) es.length = some ((c0.drop (i * es.length)).take es.length) := fun i hi => by
          have : (i + 1) * es.length ≤ len * es.length := Nat.mul_le_mul_right _ (by omega)
          rw [Nat.add_mul] at this
          rw [rdN_append_right0, rdN_cells, Nat.zero_add, if_pos (by omega)]
        have := Fits.slice (h := st.h ++ l1 ++ [.cells c0 0 none]) (es := es) (a := some ⟨(st.h ++ l1).length, 0, none⟩) (n := len) (c := cap) (st.h ++ l1).length 0 (fun i => (c0.drop (i * es.length)).take es.length) ⟨hlen, hlc, fun b' o' hb' k => by cases hb'; simp [tagOk]⟩ (fun _ => rfl) hrd (fun i j s v hi h1 h2 => by
          have hj : j < es.length := (List.getElem?_eq_some_iff.1 h1).1
          rw [List.getElem?_take_of_lt hj, List.getElem?_drop] at h2
          refine (a4.2 (i * es.length + j) s v ?_ h2).ext (Ext.snoc _ _)
          rw [repl_flat, flatMap_get len (fun _ _ => rfl) i j hi hj]
          exact h1)
        simpa using this
      | j + 1 => simp at h1

theorem canon_fields {d : Nat} {sh : TypeId → Option (List Sh)} {cs : List Value} : ∀ (fs : List Field) (off : Nat) (shs : List Sh), shapesFs P sh off fs = some shs → cs.length = off + shs.length →
    (∀ f ∈ fs, ∀ m, sh f.type = some m → Canon w m ((cs.drop f.offset).take (P.cellsOf f.type))) → Canon w shs (cs.drop off) := by
  intro fs
  induction fs with
  | nil =>
    intro off shs hsh hl _
    simp only [shapesFs, Option.some.injEq] at hsh
    subst hsh
    rw [List.drop_of_length_le (by simp at hl; omega)]
    exact Canon.nil w
  | cons f fs ih =>
    intro off shs hsh hl hf
    simp only [shapesFs] at hsh
    split at hsh
    · rename_i m hm
      split at hsh
      · rename_i hoff
        obtain ⟨rfl, hce⟩ := hoff
        simp only [Option.map_eq_some_iff] at hsh
        obtain ⟨s2, h2, rfl⟩ := hsh
        rw [List.length_append] at hl
        have h1 := hf f (by simp) m hm
        rw [hce] at h1
        have h3 := ih _ _ h2 (by omega) fun g hg => hf g (by simp [hg])
        have e : cs.drop f.offset = (cs.drop f.offset).take m.length ++ cs.drop (f.offset + m.length) := by
          rw [← List.drop_drop, List.take_append_drop]
        rw [e]
        exact h1.append h3
      · cases hsh
    · cases hsh

theorem canon : ∀ (d : Nat) (fuel : Nat) (t : TypeId) (cs : List Value) (x : DataW H × List MemPlace) (shs : List Sh), shapes P d t = some shs → DataW.trod enc P w 0 (fun _ => true) true fuel t cs = some x →
    (∀ n ∈ x.1.weights P t, n ≤ reachBytes) → Canon w shs cs := by
  intro d
  induction d with
  | zero => intro fuel t cs x shs h; simp [shapes] at h
  | succ d ih =>
    intro fuel t cs x shs hsh hx hwt
    simp only [shapes] at hsh
    split at hsh
    · rename_i k ht
      obtain rfl := Option.some.inj hsh
      obtain ⟨n, rfl, rfl, hwf⟩ := DataW.trod_int ht hx
      exact Canon.flat rfl rfl fun h => .int hwf
    · rename_i ht
      obtain rfl := Option.some.inj hsh
      obtain ⟨b, rfl, rfl⟩ := DataW.trod_bool ht hx
      exact Canon.flat rfl rfl fun h => .bool
    · rename_i e ht
      split at hsh
      · rename_i es hes
        split at hsh
        · rename_i hcond
          obtain rfl := Option.some.inj hsh
          obtain ⟨hce, hpos, hby⟩ := hcond
          rcases DataW.trod_slice ht hx with ⟨rfl, rfl⟩ | ⟨a, len, cap, elems, rest, n, rfl, rfl, rfl, _, hlc, _, hel, hi, hspare, _⟩
          · exact Canon.flat rfl rfl fun h => .slice 0 0 (fun _ => []) ⟨by simp, Nat.le_refl _, fun b' o' h => by cases h⟩ (fun h => absurd h (Nat.lt_irrefl _)) (fun i hi => absurd hi (Nat.not_lt_zero _)) (fun i j s v hi => absurd hi (Nat.not_lt_zero _))
          · obtain ⟨hr1, hr2⟩ := hspare rfl
            rw [hce] at hi hr2
            have hwt1 : (elems.length + rest.length) * P.bytesOf e ≤ reachBytes := by
              have := hwt ((elems.length + rest.length) * P.bytesOf e) (by simp [DataW.weights, ht])
              exact this
            have hlen : len * szB es ≤ reachBytes := by
              have h1 : (elems.length + rest.length) * szB es ≤ (elems.length + rest.length) * P.bytesOf e := Nat.mul_le_mul_left _ hby
              have h2 : len * szB es ≤ (elems.length + rest.length) * szB es := Nat.mul_le_mul_right _ (by omega)
              omega
            have hsome : ∀ i, i < len → ∃ c y, w.cells? 0 (a.add (i * es.length)) es.length = some c ∧ DataW.trod enc P w 0 (fun _ => true) true n e c = some y ∧ y ∈ elems := fun i hil => by
              have := hi i hil
              rw [List.getElem?_eq_getElem (by omega)] at this
              simp only [Option.bind_eq_some_iff] at this
              obtain ⟨c, h1, h2⟩ := this
              exact ⟨c, _, h1, h2, List.getElem_mem _⟩
            refine canon_slice hpos hlc hlen (ci := fun i => if hil : i < len then (hsome i hil).choose else []) (fun i hil => ?_) (fun i hil => ?_) (fun hcap => ?_)
            · simp only [hil, dif_pos]
              obtain ⟨y, h1, _⟩ := (hsome i hil).choose_spec
              exact h1
            · simp only [hil, dif_pos]
              obtain ⟨y, h1, h2, h3⟩ := (hsome i hil).choose_spec
              refine ih n e _ y es hes h2 fun m hm => hwt m ?_
              simp only [DataW.weights, ht, List.mem_cons, List.mem_append]
              refine .inr (.inl ?_)
              have key : ∀ (l : List (DataW H × List MemPlace)), y ∈ l → m ∈ DataW.weightsAll P e (l.map (·.1)) := by
                intro l
                induction l with
                | nil => intro h; cases h
                | cons z l ihl =>
                  intro h
                  simp only [List.map_cons, DataW.weightsAll, List.mem_append]
                  rcases List.mem_cons.1 h with rfl | h
                  · exact .inl hm
                  · exact .inr (ihl h)
              exact key elems h3
            · rcases Nat.eq_zero_or_pos len with h0 | h0
              · subst h0
                have := hr2 0 (by omega)
                rw [List.getElem?_eq_getElem (by omega)] at this
                simp only [Option.bind_eq_some_iff] at this
                obtain ⟨c, h1, _⟩ := this
                exact ⟨c, by simpa [Addr.add] using h1⟩
              · obtain ⟨c, _, h1, _⟩ := hsome 0 h0
                exact ⟨c, by simpa [Addr.add] using h1⟩
        · cases hsh
      · cases hsh
    · rename_i fs ht
      split at hsh
      · rename_i l hl
        split at hsh
        · rename_i hcl
          obtain rfl := Option.some.inj hsh
          obtain ⟨xs, n, rfl, rfl, hlen, hxs, hf⟩ := DataW.trod_struct ht hx
          have := canon_fields (w := w) (P := P) (d := d) (sh := shapes P d) (cs := cs) fs.toList 0 l hl (by omega) fun f hfm m hm => by
            obtain ⟨i, hi, hfi⟩ := List.mem_iff_getElem.1 hfm
            have hi' : i < fs.size := by simpa using hi
            have h1 := hf i f (by rw [Array.getElem?_eq_getElem hi']; simpa using hfi)
            rw [List.getElem?_eq_getElem (by omega)] at h1
            refine ih n f.type _ _ m hm h1 fun k hk => hwt k ?_
            simp only [DataW.weights, ht]
            refine DataW.weights_mem_each (j := i) (t := f.type) (d := (xs[i]).1) ?_ ?_ k hk
            · rw [List.getElem?_map, List.getElem?_eq_getElem hi, hfi]; rfl
            · simp [List.getElem?_eq_getElem (show i < xs.length by omega)]
          simpa using this
        · cases hsh
      · cases hsh
    · rename_i n e ht
      split at hsh
      · rename_i es hes
        split at hsh
        · rename_i hcond
          obtain rfl := Option.some.inj hsh
          obtain ⟨hce, hct⟩ := hcond
          cases fuel with
          | zero => simp [DataW.trod] at hx
          | succ fuel =>
            unfold DataW.trod at hx
            rw [ht] at hx
            have hx' : (if cs.length = P.cellsOf t then ((List.range n).mapM fun i => DataW.trod enc P w 0 (fun _ => true) true fuel e ((cs.drop (i * P.cellsOf e)).take (P.cellsOf e))).map fun xs => (DataW.agg (xs.map (·.1)), xs.flatMap (·.2)) else none) = some x := by
              revert hx
              split <;> simp_all
            split at hx'
            · rename_i hcl
              simp only [Option.map_eq_some_iff] at hx'
              obtain ⟨xs, hxs, rfl⟩ := hx'
              have hxl := mapM_some_length hxs
              simp at hxl
              rw [hce] at hxs
              have hlen : cs.length = n * es.length := by omega
              have hpart : ∀ i, i < n → Canon w es ((cs.drop (i * es.length)).take es.length) := fun i hi => by
                have h1 := mapM_some_get hxs i i (by simp [hi])
                rw [List.getElem?_eq_getElem (by omega)] at h1
                refine ih fuel e _ _ es hes h1 fun k hk => hwt k ?_
                simp only [DataW.weights, ht]
                have key : ∀ (l : List (DataW H × List MemPlace)) y, y ∈ l → k ∈ y.1.weights P e → k ∈ DataW.weightsAll P e (l.map (·.1)) := by
                  intro l
                  induction l with
                  | nil => intro y h; cases h
                  | cons z l ihl =>
                    intro y h hm
                    simp only [List.map_cons, DataW.weightsAll, List.mem_append]
                    rcases List.mem_cons.1 h with rfl | h
                    · exact .inl hm
                    · exact .inr (ihl y h hm)
                exact key xs _ (List.getElem_mem _) hk
              have := Canon.rep n hpart
              have e2 : (List.range n).flatMap (fun i => (cs.drop (i * es.length)).take es.length) = cs := by
                have hpl : ∀ i, i < n → ((cs.drop (i * es.length)).take es.length).length = es.length := fun i hi => by
                  have : (i + 1) * es.length ≤ n * es.length := Nat.mul_le_mul_right _ (by omega)
                  rw [Nat.add_mul] at this
                  simp; omega
                apply List.ext_getElem?
                intro k
                by_cases hk : k < n * es.length
                · obtain ⟨i, j, rfl, hi, hj⟩ := split_index hk
                  rw [flatMap_get n hpl i j hi hj, List.getElem?_take_of_lt hj, List.getElem?_drop]
                · rw [List.getElem?_eq_none (by rw [flatMap_len n hpl]; omega), List.getElem?_eq_none (by omega)]
              rw [e2] at this
              exact this
            · cases hx'
        · cases hsh
      · cases hsh
    · cases hsh
end
end Go.Ai
namespace Go.Ai
set_option linter.unusedSimpArgs false
set_option linter.unusedVariables false
open Go.ChangeShapes
section
variable {H : Type} {enc : TypeId × Value → H} {P : Program} {w : World}

theorem trod_sp {sp : Nat → Bool} : ∀ (d : Nat) (fuel : Nat) (t : TypeId) (cs : List Value) (x : DataW H × List MemPlace) (shs : List Sh), shapes P d t = some shs → DataW.trod enc P w 0 (fun _ => true) true fuel t cs = some x →
    (∀ p ∈ x.2, sp p.block = true) → DataW.trod enc P w 0 sp true fuel t cs = some x := by
  intro d
  induction d with
  | zero => intro fuel t cs x shs h; simp [shapes] at h
  | succ d ih =>
    intro fuel t cs x shs hsh hx hsp
    cases fuel with
    | zero => simp [DataW.trod] at hx
    | succ n =>
    simp only [shapes] at hsh
    split at hsh
    · rename_i k ht
      obtain ⟨m, rfl, rfl, hwf⟩ := DataW.trod_int ht hx
      simp [DataW.trod, ht, hwf]
    · rename_i ht
      obtain ⟨b, rfl, rfl⟩ := DataW.trod_bool ht hx
      simp [DataW.trod, ht]
    · rename_i e ht
      split at hsh
      · rename_i es hes
        split at hsh
        · rename_i hcond
          obtain ⟨hce, hpos, hby⟩ := hcond
          rcases DataW.trod_slice ht hx with ⟨rfl, rfl⟩ | ⟨a, len, cap, elems, rest, n', hn, rfl, rfl, _, hlc, hcm, hel, hi, hspare, _⟩
          · simp [DataW.trod, ht]
          · obtain rfl : n = n' := by omega
            obtain ⟨hr1, hr2⟩ := hspare rfl
            simp only [List.mem_append, List.mem_flatMap] at hsp
            have hel' : ∀ i, i < len → ((w.cells? 0 (a.add (i * P.cellsOf e)) (P.cellsOf e)).bind (DataW.trod enc P w 0 sp true n e)) = elems[i]? := fun i hil => by
              have h1 := hi i hil
              rw [List.getElem?_eq_getElem (by omega)] at h1 ⊢
              simp only [Option.bind_eq_some_iff] at h1 ⊢
              obtain ⟨c, q1, q2⟩ := h1
              exact ⟨c, q1, ih n e c _ es hes q2 fun p hp => hsp p (.inr ⟨_, .inl (List.getElem_mem _), hp⟩)⟩
            have hre' : ∀ j, j < cap - len → ((w.cells? 0 (a.add ((len + j) * P.cellsOf e)) (P.cellsOf e)).bind (DataW.trod enc P w 0 sp true n e)) = rest[j]? := fun j hj => by
              have h1 := hr2 j hj
              rw [List.getElem?_eq_getElem (by omega)] at h1 ⊢
              simp only [Option.bind_eq_some_iff] at h1 ⊢
              obtain ⟨c, q1, q2⟩ := h1
              exact ⟨c, q1, ih n e c _ es hes q2 fun p hp => hsp p (.inr ⟨_, .inr (List.getElem_mem _), hp⟩)⟩
            have m1 : (List.range len).mapM (fun i => (w.cells? 0 (a.add (i * P.cellsOf e)) (P.cellsOf e)).bind (DataW.trod enc P w 0 sp true n e)) = some elems :=
              mapM_some_of_get _ _ (by simp [hel]) fun i x hix => by
                obtain ⟨h1, h2⟩ := List.getElem?_eq_some_iff.1 hix
                simp at h1 h2
                subst h2
                exact hel' i h1
            have m2 : (List.range (cap - len)).mapM (fun j => (w.cells? 0 (a.add ((len + j) * P.cellsOf e)) (P.cellsOf e)).bind (DataW.trod enc P w 0 sp true n e)) = some rest :=
              mapM_some_of_get _ _ (by simp [hr1]) fun i x hix => by
                obtain ⟨h1, h2⟩ := List.getElem?_eq_some_iff.1 hix
                simp at h1 h2
                subst h2
                exact hre' i h1
            have hsa : sp a.block = true ∨ cap - len = 0 := by
              by_cases h0 : cap - len = 0
              · exact .inr h0
              · left
                refine hsp (.cell a.block (a.off + 0)) (.inl (MemPlace.mem_row.2 ⟨0, ?_, rfl⟩))
                rw [hce]
                exact Nat.mul_pos (by omega) hpos
            simp only [DataW.trod, ht]
            rw [if_pos ⟨Nat.zero_le _, hlc, hcm⟩, m1]
            simp only [Option.bind_some]
            rcases hsa with h | h
            · rw [if_pos h, m2]; rfl
            · have : rest = [] := List.length_eq_zero_iff.1 (by omega)
              subst this
              split
              · rw [m2]; rfl
              · rfl
        · cases hsh
      · cases hsh
    · rename_i fs ht
      split at hsh
      · rename_i l hl
        obtain ⟨xs, n', hn, rfl, hlen, hxs, hf⟩ := DataW.trod_struct ht hx
        obtain rfl : n = n' := by omega
        have hsh2 : ∀ f ∈ fs.toList, ∃ m, shapes P d f.type = some m := by
          have key : ∀ (l : List Field) (off : Nat) (s : List Sh), shapesFs P (shapes P d) off l = some s → ∀ f ∈ l, ∃ m, shapes P d f.type = some m := by
            intro l
            induction l with
            | nil => intro _ _ _ f hf; cases hf
            | cons g l ihl =>
              intro off s h f hf
              simp only [shapesFs] at h
              split at h
              · rename_i m hm
                split at h
                · simp only [Option.map_eq_some_iff] at h
                  obtain ⟨s2, h2, _⟩ := h
                  rcases List.mem_cons.1 hf with rfl | hf
                  · exact ⟨m, hm⟩
                  · exact ihl _ _ h2 f hf
                · cases h
              · cases h
          exact key fs.toList 0 l hl
        have m1 : fs.toList.mapM (fun f => DataW.trod enc P w 0 sp true n f.type ((cs.drop f.offset).take (P.cellsOf f.type))) = some xs :=
          mapM_some_of_get _ _ (by simp [hxs]) fun i f hif => by
            have h1 := hf i f (by simpa using hif)
            have hil : i < fs.size := by simpa using (List.getElem?_eq_some_iff.1 hif).1
            rw [List.getElem?_eq_getElem (by omega)] at h1 ⊢
            obtain ⟨m, hm⟩ := hsh2 f (List.mem_of_getElem? hif)
            exact ih n f.type _ _ m hm h1 fun p hp => hsp p (List.mem_flatMap.2 ⟨_, List.getElem_mem _, hp⟩)
        unfold DataW.trod
        rw [ht]
        have hne : ∀ y, (if cs.length = P.cellsOf t then (fs.toList.mapM fun f => DataW.trod enc P w 0 sp true n f.type ((cs.drop f.offset).take (P.cellsOf f.type))).map fun xs => (DataW.agg (xs.map (·.1)), xs.flatMap (·.2)) else none) = some y →
            (match some (TypeDesc.struct fs), cs with
              | some (.struct fs), cs => if cs.length = P.cellsOf t then (fs.toList.mapM fun f => DataW.trod enc P w 0 sp true n f.type ((cs.drop f.offset).take (P.cellsOf f.type))).map fun xs => (DataW.agg (xs.map (·.1)), xs.flatMap (·.2)) else none
              | _, _ => none) = some y := fun y h => h
        have := hne (.agg (xs.map (·.1)), xs.flatMap (·.2)) (by rw [if_pos hlen, m1]; rfl)
        revert this
        split <;> simp_all
      · cases hsh
    · rename_i k e ht
      split at hsh
      · rename_i es hes
        have hx' : (if cs.length = P.cellsOf t then ((List.range k).mapM fun i => DataW.trod enc P w 0 (fun _ => true) true n e ((cs.drop (i * P.cellsOf e)).take (P.cellsOf e))).map fun xs => (DataW.agg (xs.map (·.1)), xs.flatMap (·.2)) else none) = some x := by
          unfold DataW.trod at hx
          rw [ht] at hx
          revert hx
          split <;> simp_all
        split at hx'
        · rename_i hcl
          simp only [Option.map_eq_some_iff] at hx'
          obtain ⟨xs, hxs, rfl⟩ := hx'
          have m1 : (List.range k).mapM (fun i => DataW.trod enc P w 0 sp true n e ((cs.drop (i * P.cellsOf e)).take (P.cellsOf e))) = some xs :=
            mapM_carry hxs fun i y hi hy h => ih n e _ y es hes h fun p hp => hsp p (List.mem_flatMap.2 ⟨y, hy, hp⟩)
          have h2 : (if cs.length = P.cellsOf t then ((List.range k).mapM fun i => DataW.trod enc P w 0 sp true n e ((cs.drop (i * P.cellsOf e)).take (P.cellsOf e))).map fun xs => (DataW.agg (xs.map (·.1)), xs.flatMap (·.2)) else none) = some (DataW.agg (xs.map (·.1)), xs.flatMap (·.2)) := by
            rw [if_pos hcl, m1]; rfl
          unfold DataW.trod
          rw [ht]
          revert h2
          split <;> simp_all
        · cases hx'
      · cases hsh
    · cases hsh

theorem Trod_behind {w' : World} {sp : Nat → Bool} {t : TypeId} {v : Value} {x : DataW H} {ps : List MemPlace} {d : Nat} {shs : List Sh} (hsh : shapes P d t = some shs) (h : DataW.Trod enc P w 0 (fun _ => true) true t v x ps)
    (hw : ∀ k, k < w.heap.size → w'.heap[k]? = w.heap[k]?) (hsp : ∀ p ∈ ps, sp p.block = true) : DataW.Trod enc P w' 0 sp true t v x ps := by
  obtain ⟨fuel, hx⟩ := h
  have h1 := trod_sp d fuel t _ (x, ps) shs hsh hx hsp
  refine ⟨fuel, DataW.trod_carry fuel t _ (x, ps) h1 fun p hp => ?_⟩
  have hlt := DataW.trod_lt fuel t _ (x, ps) hx p hp
  have := hw p.block hlt
  cases p with
  | cell b off => simp only [World.sameAt, World.cell?]; simp only [MemPlace.block] at this; rw [this]
  | map b => exact this
theorem TrodAll_behind {w' : World} {sp : Nat → Bool} {d : Nat} (hw : ∀ k, k < w.heap.size → w'.heap[k]? = w.heap[k]?) : ∀ {ts : List TypeId} {vs : List Value} {ds : List (DataW H)} {ps : List MemPlace}, (∀ t ∈ ts, ∃ shs, shapes P d t = some shs) → DataW.TrodAll enc P w 0 (fun _ => true) true ts vs ds ps →
    (∀ p ∈ ps, sp p.block = true) → DataW.TrodAll enc P w' 0 sp true ts vs ds ps := by
  intro ts
  induction ts with
  | nil =>
    intro vs ds ps _ h _
    obtain ⟨rfl, rfl, rfl⟩ := trodAll_nil h
    exact rfl
  | cons t ts ih =>
    intro vs ds ps hsh h hsp
    obtain ⟨v, vs', x, ds', p, q, rfl, rfl, rfl, h1, h2⟩ := trodAll_cons h
    obtain ⟨shs, hs⟩ := hsh t (by simp)
    exact ⟨p, q, Trod_behind hs h1 hw (fun y hy => hsp y (by simp [hy])), ih (fun u hu => hsh u (by simp [hu])) h2 (fun y hy => hsp y (by simp [hy])), rfl⟩
theorem keptBut_same {w' : World} (hos : w'.os = w.os) (hout : w'.output = w.output) (hw : ∀ k, k < w.heap.size → w'.heap[k]? = w.heap[k]?) (may : MemPlace → Prop) : w.keptBut w' may := by
  refine ⟨hos, hout, fun i hi => ?_⟩
  rw [hw i hi]
  split
  · rename_i c t fr c' t' fr' h1 h2
    rw [h1] at h2
    cases h2
    exact ⟨rfl, rfl, rfl, fun _ _ => rfl⟩
  · rename_i es clock es' clock' h1 h2
    rw [h1] at h2
    cases h2
    exact .inr ⟨rfl, rfl⟩
  · rfl
/-- What a law's contract owes: nothing below was touched, and the answer is true. -/
theorem post_law {f : Func} {s : ChangeSpec} {apart fresh handsOn again : Bool} {W W' : World} {args : Array Value} {ds gs : List (DataW H)} {before : List MemPlace} {d tb : Nat}
    (hW : DataW.Whole enc P f.params.toList s.vars apart W args.toList ds gs before) (hvars : s.vars = []) (hr : f.resultTypes = #[tb]) (htb : P.underlying tb = some .bool)
    (hfn : s.fn H (ds ++ gs) = { results := [.lit (.bool true)], args := ds })
    (hsh : ∀ t ∈ f.params.toList, ∃ shs, shapes P d t = some shs) (hos : W'.os = W.os) (hout : W'.output = W.output) (hw : ∀ k, k < W.heap.size → W'.heap[k]? = W.heap[k]?) :
    s.post enc P f apart fresh handsOn again W args (.bool true) W' := by
  obtain ⟨p, q, hA, hV, hb, hz, hnd⟩ := hW
  rw [hvars] at hV
  have hV' := hV
  obtain ⟨rfl, rfl⟩ := trodVars_none hV
  have hbp : before = p := by simpa using hb
  subst hbp
  have hres : ∀ (b : Nat) (sp : Nat → Bool) (hd : Bool), DataW.TrodAll enc P W' b sp hd f.resultTypes.toList ((Value.bool true).resultList f.resultTypes.size) [.lit (.bool true)] [] := fun b sp hd => by
    rw [hr]
    exact trodAll_mk1 (Go.RowKit.shut_bool htb true)
  have hlt : ∀ p ∈ before, p.block < W.heap.size := DataW.TrodAll.lt hA
  have hargs : ∀ sp : Nat → Bool, (∀ p ∈ before, sp p.block = true) → DataW.TrodAll enc P W' 0 sp true f.params.toList args.toList ds before := fun sp hsp => TrodAll_behind hw hsh hA hsp
  refine ⟨ds, [], before, [], before, [], ⟨before, [], hA, by rw [hvars]; exact hV', by simp, hz, hnd⟩, ?_, ?_, ?_, keptBut_same hos hout hw _, fun _ => ⟨?_, [.lit (.bool true)] ++ ds, [], before, ⟨before, [], ?_, by rw [hvars]; rfl, by simp, ?_, ?_⟩, fun p hp _ => hp⟩⟩
  · rw [hfn]; exact hres _ _ _
  · rw [hfn]; exact hargs _ fun p hp => by simpa using hlt p hp
  · rw [hvars, hfn]; rfl
  · intro j t r hj hrr
    rw [hr] at hj hrr
    match j with
    | 0 =>
      simp [Value.resultList] at hj hrr
      subst hj hrr
      exact Go.RowKit.okWide_bool_mk htb true
    | j + 1 => simp at hj
  · have := trodAll_append (hargs (fun _ => true) fun _ _ => rfl) (hres 0 (fun _ => true) true)
    simpa using this
  · intro b off hp
    have h1 := hz b off hp
    have h2 := hw b (hlt _ hp)
    simp only [World.frozen?] at h1 ⊢
    rw [h2]; exact h1
  · exact hnd

/-- A law that the run answers with true. -/
theorem law_calls {E : Env} (hm : P.follows .mixedOrders = true) (hE : ∀ B, EnvOk Fence.wide P B E) (hS : SumsKept E) {f : FuncId} (hf : f < yB) {args0 args' : List Value} {ρ : RM} {W : World} {st st' : St} (h : DR E f args0 ⟨st.h, st.h.length⟩ (.ret (.bool true)) st') (ha : LRel ρ args0 args') (hR : SRel W.heap.size ρ W st) :
    Calls P f args'.toArray W fun e W' => e = .returned (.bool true) ∧ W'.os = W.os ∧ W'.output = W.output ∧ ∀ k, k < W.heap.size → W'.heap[k]? = W.heap[k]? := by
  obtain ⟨m, h⟩ := h
  refine (calls_of_exec hm (hE W.heap.size) hS h hf rfl ha (hR.fl _)).mono fun e W' hp => ?_
  cases e with
  | returned v' =>
    obtain ⟨v, st2, ρ', ⟨h1, _⟩, h2, _, h4⟩ := hp
    obtain rfl := Out.ret.inj h1
    obtain rfl := h2.bool
    exact ⟨rfl, h4.os, h4.output, fun k hk => h4.below k hk⟩
  | panicked chain => obtain ⟨v, v', st2, ρ', ⟨h1, _⟩, _⟩ := hp; cases h1
  | outgrown => exact hp.elim

theorem ints_of {h : List O} {v : Value} (hf : Fits h (.slice [.int .i64]) v) : ∃ xs, Ints h v xs := by
  cases hf with
  | slice b o vs hn ha hr hv =>
    rename_i a n c
    have key : ∀ i, i < n → ∃ x, vs i = [.int .i64 x] ∧ I64 x := fun i hi => by
      have h1 := hr i hi
      have hl : (vs i).length = 1 := by
        unfold rdN at h1
        split at h1
        · split at h1
          · have := Option.some.inj h1
            rw [← this]
            simp at *
            omega
          · cases h1
        · cases h1
      obtain ⟨x, hx⟩ := List.length_eq_one_iff.1 hl
      have h2 := hv i 0 (.int .i64) x hi rfl (by rw [hx]; rfl)
      cases h2 with
      | int hw =>
        rename_i y
        refine ⟨y, hx, ?_⟩
        have : -9223372036854775808 ≤ y ∧ y ≤ 9223372036854775807 := by simpa [Lit.wf, IntKind.min, IntKind.max, IntKind.signed, IntKind.bits] using hw
        exact this
    refine ⟨(List.range n).map fun i => if hi : i < n then (key i hi).choose else 0, a, b, o, c, by simp, fun h0 => ha (by simpa using h0), fun i hi => ?_, fun i => ?_, by have h0 := hn.1; simp [reachBytes, szB] at h0 ⊢; omega⟩
    · simp at hi
      have hs := (key i hi).choose_spec
      have h1 := hr i hi
      rw [hs.1] at h1
      simp [nth, hi]
      unfold rdN at h1
      unfold rd
      split at h1
      · rename_i cc el own hb
        split at h1
        · have h2 := Option.some.inj h1
          simp at h2
          have h3 : (List.take 1 (List.drop (o + i) cc))[0]? = some (Value.int .i64 (key i hi).choose) := by rw [h2]; rfl
          rw [List.getElem?_take_of_lt (by omega), List.getElem?_drop] at h3
          simpa using h3
        · cases h1
      · cases h1
    · by_cases hi : i < n
      · simp [nth, hi]
        exact (key i hi).choose_spec.2
      · simp [nth, hi, I64]
theorem mat_of {h : List O} {v : Value} (hf : Fits h (.slice [.slice [.int .i64]]) v) : ∃ A, Mat h v A := by
  cases hf with
  | slice b o vs hn ha hr hv =>
    rename_i a n c
    have key : ∀ i, i < n → ∃ x xs, vs i = [x] ∧ Ints h x xs := fun i hi => by
      have h1 := hr i hi
      have hl : (vs i).length = 1 := by
        unfold rdN at h1
        split at h1
        · split at h1
          · have := Option.some.inj h1
            rw [← this]
            simp at *
            omega
          · cases h1
        · cases h1
      obtain ⟨x, hx⟩ := List.length_eq_one_iff.1 hl
      obtain ⟨xs, hxs⟩ := ints_of (hv i 0 _ x hi rfl (by rw [hx]; rfl))
      exact ⟨x, xs, hx, hxs⟩
    refine ⟨(List.range n).map fun i => if hi : i < n then (key i hi).choose_spec.choose else [], a, b, o, c, fun i => if hi : i < n then (key i hi).choose else undef, by simp, fun h0 => ha (by simpa using h0), fun i hi => ?_, by have h0 := hn.1; simp [reachBytes, szB] at h0 ⊢; omega⟩
    simp at hi
    have hs := (key i hi).choose_spec.choose_spec
    have h1 := hr i hi
    rw [hs.1] at h1
    constructor
    · simp [hi]
      unfold rdN at h1
      unfold rd
      split at h1
      · rename_i cc el own hb
        split at h1
        · have h2 := Option.some.inj h1
          simp at h2
          have h3 : (List.take 1 (List.drop (o + i) cc))[0]? = some (key i hi).choose := by rw [h2]; simp
          rw [List.getElem?_take_of_lt (by omega), List.getElem?_drop] at h3
          simpa using h3
        · cases h1
      · cases h1
    · simp only [hi, dif_pos]
      have : nthR ((List.range n).map fun i => if hi : i < n then (key i hi).choose_spec.choose else []) i = (key i hi).choose_spec.choose := by simp [nthR, hi]
      rw [this]
      exact hs.2
end
/-- Plain lists are short, and parts of them may be taken. -/
theorem ints_room {h : List O} {v : Value} {xs : List Int} (hf : Fits h (.slice [.int .i64]) v) (hv : Ints h v xs) : xs.length * 8 ≤ roomMax ∧ ∃ a n c, v = .slice a n c ∧ n ≤ c ∧ ∀ b o, a = some ⟨b, o, none⟩ → tagOk h 1 b = true := by
  cases hf with
  | slice b o vs hn ha hr _ =>
    obtain ⟨a', b', o', c', e, _⟩ := hv
    simp only [Value.slice.injEq] at e
    obtain ⟨rfl, rfl, rfl⟩ := e
    refine ⟨by have h0 := hn.1; simp [reachBytes, szB, roomMax] at h0 ⊢; omega, _, _, _, rfl, hn.2.1, fun b o ha => hn.2.2 b o ha 1⟩
theorem mat_room {h : List O} {v : Value} {A : List (List Int)} (hf : Fits h (.slice [.slice [.int .i64]]) v) (hv : Mat h v A) : A.length * 24 ≤ roomMax ∧ ∀ i, i < A.length → (nthR A i).length * 8 ≤ roomMax := by
  cases hf with
  | slice b o vs hn ha hr hvs =>
    rename_i a n c
    obtain ⟨a', b', o', c', ws, e, h2, h3, h4⟩ := hv
    simp only [Value.slice.injEq] at e
    obtain ⟨rfl, rfl, rfl⟩ := e
    refine ⟨by have h0 := hn.1; simp [reachBytes, szB, roomMax] at h0 ⊢; omega, fun i hi => ?_⟩
    obtain ⟨k1, k2⟩ := h3 i hi
    have e1 := ha (by omega)
    have e2 := h2 (by omega)
    rw [e1] at e2
    simp only [Option.some.injEq, Addr.mk.injEq, and_true] at e2
    obtain ⟨rfl, rfl⟩ := e2
    have r1 := hr i hi
    have hw : (vs i)[0]? = some (ws i) := by
      unfold rdN at r1
      unfold rd at k1
      split at r1
      · rename_i cc el own hb
        rw [hb] at k1
        split at r1
        · have h2 := Option.some.inj r1
          rw [← h2]
          simp
          simpa using k1
        · cases r1
      · cases r1
    exact (ints_room (hvs i 0 _ _ hi rfl hw) k2).1
end Go.Ai
