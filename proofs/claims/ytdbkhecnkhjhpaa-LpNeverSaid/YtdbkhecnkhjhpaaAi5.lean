/- Values built out of parts, slices, appending. -/
import Derived.Test.YtdbkhecnkhjhpaaAi4
namespace Go.Ai
open Go.RowKit
set_option linter.unusedSimpArgs false
set_option linter.unusedVariables false
variable {P : Program} {ρ : RM} {w : World}

/-! ### Built out of parts -/
inductive Parts (ρ : RM) (place : Nat → Option (Nat × Nat)) : List (Nat × Nat × Value) → List (Nat × Value) → Prop
  | nil : Parts ρ place [] []
  | cons {i off size : Nat} {v v' : Value} {qs : List (Nat × Nat × Value)} {ps : List (Nat × Value)} : place i = some (off, size) → VRel ρ v v' → Parts ρ place qs ps → Parts ρ place ((off, size, v) :: qs) ((i, v') :: ps)

theorem setL_length (vs : List Value) : ∀ (c : List Value) (i : Nat), (setL c i vs).length = c.length := by
  induction vs with
  | nil => intro c i; rfl
  | cons v vs ih => intro c i; simp [setL, ih]

theorem LRel.setL {vs : List Value} : ∀ {vs' c c' : List Value} {i : Nat}, LRel ρ c c' → LRel ρ vs vs' → LRel ρ (setL c i vs) (setL c' i vs') := by
  induction vs with
  | nil =>
    intro vs' c c' i h hl
    have : vs' = [] := by have := hl.1; simpa using this.symm
    subst this
    exact h
  | cons v vs ih =>
    intro vs' c c' i h hl
    obtain ⟨v', vs', rfl, hv, hl'⟩ := hl.uncons
    refine ih ⟨by simp [h.1], fun j a b ha hb => ?_⟩ hl'
    by_cases hj : j = i
    · subst hj
      have h1 : j < c.length := by simpa using (List.getElem?_eq_some_iff.1 ha).1
      rw [List.getElem?_set_self h1] at ha
      rw [List.getElem?_set_self (by have := h.1; omega)] at hb
      obtain rfl := Option.some.inj ha
      obtain rfl := Option.some.inj hb
      exact hv
    · rw [List.getElem?_set_ne (by omega)] at ha hb
      exact h.2 j a b ha hb

theorem foldl_set (l : List Value) : ∀ (k off : Nat) (cells : Array Value), ((l.zipIdx k).foldl (fun cs (p : Value × Nat) => cs.setIfInBounds (off + p.2) p.1) cells).toList = setL cells.toList (off + k) l := by
  induction l with
  | nil => intro k off cells; rfl
  | cons v l ih => intro k off cells; simp [List.zipIdx_cons, ih, Ai.setL, Nat.add_assoc]

theorem fill_ok {place : Nat → Option (Nat × Nat)} {qs : List (Nat × Nat × Value)} {ps : List (Nat × Value)} (h : Parts ρ place qs ps) :
    ∀ {c l : List Value} {cells : Array Value}, LRel ρ c cells.toList → fillL c qs = some l → ∃ cs' : Array Value, Instr.fill place cells ps = some cs' ∧ LRel ρ l cs'.toList := by
  induction h with
  | nil =>
    intro c l cells hc hl
    obtain rfl := Option.some.inj hl
    exact ⟨cells, rfl, hc⟩
  | @cons i off size v v' qs ps hp hv _ ih =>
    intro c l cells hc hl
    simp only [fillL] at hl
    split at hl
    · rename_i hk
      obtain ⟨hk1, hk2⟩ := hk
      have hcv := cells_rel hv
      have hs : v'.cells.size = size := by rw [← hk1, hcv.1]; simp
      have hle : ¬ off + v'.cells.size > cells.size := by have := hc.1; simp at this; omega
      have hset : LRel ρ (setL c off v.cells.toList) (v'.cells.zipIdx.foldl (fun cs (p : Value × Nat) => cs.setIfInBounds (off + p.2) p.1) cells).toList := by
        rw [← Array.foldl_toList, Array.toList_zipIdx]
        have := foldl_set v'.cells.toList 0 off cells
        rw [Nat.add_zero] at this
        rw [this]
        exact LRel.setL hc hcv
      obtain ⟨cs', h1, h2⟩ := ih hset hl
      refine ⟨cs', ?_, h2⟩
      simp only [Instr.fill, hp, hs]
      rw [hs] at hle
      simpa [hle] using h1
    · cases hl

theorem zeroC_run {t : TypeId} {zero : List Value} (hz : zeroC P t = some zero) : ∃ z, (zeroValue t).run P w = .ok z w ∧ zero = z.cells.toList ∧ LRel ρ zero z.cells.toList ∧ zero.all plain = true := by
  unfold zeroC at hz
  split at hz
  · rename_i z hzz
    split at hz
    · rename_i hall
      obtain rfl := Option.some.inj hz
      refine ⟨z, ?_, rfl, plain_all hall, hall⟩
      cases hi : P.info? t with
      | none => simp [hi] at hzz
      | some i => simp [hi] at hzz; simp [zeroValue, typeInfo, hi, hzz, Sem.run_bind]
    · cases hz
  · cases hz

theorem build_struct_ok {h : List O} {t : TypeId} {zero l : List Value} {fields : Array Field} {places : List (Nat × Nat)} {qs : List (Nat × Nat × Value)} {ps : Array (Nat × Value)} (hz : zeroC P t = some zero)
    (hu : P.underlying t = some (.struct fields)) (hp : fields.toList.mapM (fun f => (P.info? f.type).map fun i => (f.offset, i.size)) = some places) (hq : Parts ρ (fun i => places[i]?) qs ps.toList) (hl : fillL zero qs = some l) :
    Ok ρ w h h [] (.agg l.toArray) ((do pure (Next.value (← Instr.build t ps)) : Sem Next).run P w) := by
  obtain ⟨z, hz1, _, hz2, _⟩ := zeroC_run (w := w) (ρ := ρ) hz
  obtain ⟨cs', h1, h2⟩ := fill_ok hq hz2 hl
  refine ok_pure (v' := .agg cs') ?_ (VRel.agg' h2)
  have := run_places (P := P) w fields.toList places hp
  simp only [Instr.build, Sem.run_bind, hz1, Result.andThen_ok, run_underlying hu, Array.mapM_eq_mapM_toList, bind_pure_comp, Sem.run_map, this]
  simp [h1]

theorem build_array_ok {h : List O} {t elem : TypeId} {n size : Nat} {zero l : List Value} {qs : List (Nat × Nat × Value)} {ps : Array (Nat × Value)} (hz : zeroC P t = some zero)
    (hu : P.underlying t = some (.array n elem)) (hs : sizeC P elem = some size) (hq : Parts ρ (fun i => some (i * size, size)) qs ps.toList) (hl : fillL zero qs = some l) :
    Ok ρ w h h [] (.agg l.toArray) ((do pure (Next.value (← Instr.build t ps)) : Sem Next).run P w) := by
  obtain ⟨z, hz1, _, hz2, _⟩ := zeroC_run (w := w) (ρ := ρ) hz
  obtain ⟨cs', h1, h2⟩ := fill_ok hq hz2 hl
  refine ok_pure (v' := .agg cs') ?_ (VRel.agg' h2)
  simp only [Instr.build, Sem.run_bind, hz1, Result.andThen_ok, run_underlying hu, run_size hs]
  simp [h1]

/-! ### Rows of zeros -/
theorem rep_flat (n : Nat) (z : List Value) : rep n z = (List.replicate n z).flatten := by
  unfold rep
  split
  · rename_i x
    induction n with
    | zero => rfl
    | succ n ih => rw [List.replicate_succ, List.replicate_succ, List.flatten_cons, ih]; rfl
  · rfl

theorem rep_get (n : Nat) (z : List Value) : (List.range (n * z.length)).map (fun i => z[i % z.length]!) = rep n z := by
  rw [rep_flat]
  induction n with
  | zero => rw [Nat.zero_mul]; rfl
  | succ n ih =>
    rw [List.replicate_succ, List.flatten_cons, Nat.succ_mul, Nat.add_comm, List.range_add, List.map_append, List.map_map, ← ih]
    congr 1
    · apply List.ext_getElem?
      intro i
      by_cases hi : i < z.length
      · simp [hi, Nat.mod_eq_of_lt hi]
      · simp [hi]
    · apply List.map_congr_left
      intro i _
      show z[(z.length + i) % z.length]! = _
      rw [Nat.add_mod_left]

theorem zeroCells_ok {z : Value} {zero : List Value} (n : Nat) (hz : zero = z.cells.toList) : (Builtin.zeroCells z.cells n).toList = rep n zero := by
  subst hz
  rw [← rep_get, Builtin.zeroCells, Array.toList_map, Array.toList_range]
  apply List.map_congr_left
  intro i _
  simp only [← Array.length_toList]
  cases hx : z.cells with
  | mk l => simp

theorem rep_plain {n : Nat} {z : List Value} (h : z.all plain = true) : (rep n z).all plain = true := by
  unfold rep
  split
  · simp at h ⊢
    exact .inr h
  · simp at h ⊢
    exact .inr h

theorem rep_length (n : Nat) (z : List Value) : (rep n z).length = n * z.length := by
  rw [← rep_get]; simp

theorem buildSlice_ok {h : List O} (hd : Dom ρ h) {t elem : TypeId} {size len : Nat} {zero l : List Value} {qs : List (Nat × Nat × Value)} {ps : Array (Nat × Value)} (hu : P.underlying t = some (.slice elem)) (hs : sizeC P elem = some size)
    (hz : zeroC P elem = some zero) (hzs : zero.length = size) (h0 : 0 < size) (hlen : len * size ≤ 2 ^ 24) (hl0 : len ≠ 0) (hq : Parts ρ (fun i => some (i * size, size)) qs ps.toList) (hl : fillL (rep len zero) qs = some l) :
    Ok ρ w h (h ++ [.cells l elem (some 0)]) [] (.slice (some ⟨h.length, 0, none⟩) len len) ((do pure (Next.value (← Instr.buildSlice t len ps)) : Sem Next).run P w) := by
  obtain ⟨z, hz1, hz3, _, hz4⟩ := zeroC_run (w := w) (ρ := ρ) hz
  have hrep : (Array.map (fun i => z.cells[i % z.cells.size]!) (Array.range (len * size))).toList = rep len zero := by
    have := zeroCells_ok len hz3
    simp only [Builtin.zeroCells] at this
    have hsz : z.cells.size = size := by rw [← hzs, hz3]; simp
    rw [hsz] at this ⊢
    exact this
  obtain ⟨cs', h1, h2⟩ := fill_ok hq (by rw [hrep]; exact plain_all (rep_plain hz4)) hl
  have hne : ¬ len * size = 0 := by
    have := Nat.mul_pos (Nat.pos_of_ne_zero hl0) h0
    omega
  refine Ok.of_run ?_ (Eff.made (s := 0) (cs := cs') (e := elem) hd h2) ?_ (v' := .slice (some ⟨w.heap.size, 0, none⟩) len len)
  · have hgt : ¬ len * size > 2 ^ 24 := by omega
    simp only [Instr.buildSlice, Sem.run_bind, run_underlying hu, Result.andThen_ok, run_size hs, hgt, if_false, hne, hz1, Sem.run_pure, h1, run_newRow]
  · have := VRel.slice (ρ := upd ρ h.length ⟨w.heap.size, 0, 0, cs'.size⟩) (o := 0) (o' := 0) (n := len) (c := len) (c' := len) (upd_at _ _ _) (Nat.le_refl _) (.inl rfl) (Nat.le_refl _) (.inl rfl)
    exact this

theorem range_map_zero {α : Type} (f : Nat → α) : Array.map f (Array.range 0) = #[] := by
  apply Array.toList_inj.1
  rw [Array.toList_map, Array.toList_range]
  rfl

theorem buildSlice_none {h : List O} {t elem : TypeId} {size : Nat} (hu : P.underlying t = some (.slice elem)) (hs : sizeC P elem = some size) :
    Ok ρ w h h [] emptyS ((do pure (Next.value (← Instr.buildSlice t 0 #[])) : Sem Next).run P w) := by
  refine Ok.of_run (w' := { w with heap := w.heap.push (.cells #[] elem) }) (v' := .slice (some ⟨w.heap.size, 0, none⟩) 0 0) ?_ (Eff.grew ρ w _ h rfl rfl rfl (by simp) (fun k hk => heap_push_lt w _ k hk)) (.empty _)
  simp [Instr.buildSlice, Sem.run_bind, run_underlying hu, run_size hs, Instr.fill, run_newRow]
  rw [range_map_zero]

theorem makeSlice_ok {h : List O} (hd : Dom ρ h) {t elem : TypeId} {size b : Nat} {zero : List Value} {l c : Int} (hu : P.underlying t = some (.slice elem)) (hs : sizeC P elem = some size) (hb : bytesC P elem = some b)
    (hz : zeroC P elem = some zero) (hzs : zero.length = size) (h0 : 0 < size) (hl : 0 ≤ l) (hlc : l ≤ c) (hcb : c * b ≤ 2 ^ 47) (hc62 : c < 2 ^ 62) :
    Ok ρ w h (h ++ [.cells (rep c.toNat zero) elem (some 0)]) [] (.slice (some ⟨h.length, 0, none⟩) l.toNat c.toNat) ((do pure (Next.value (← Instr.makeSlice t (.int .i64 l) (.int .i64 c))) : Sem Next).run P w) := by
  obtain ⟨z, hz1, hz3, _, hz4⟩ := zeroC_run (w := w) (ρ := ρ) hz
  obtain ⟨i, hi, hib⟩ : ∃ i, P.info? elem = some i ∧ i.bytes = b := by
    unfold bytesC at hb
    cases hx : P.info? elem with
    | none => simp [hx] at hb
    | some i => exact ⟨i, rfl, by simpa [hx] using hb⟩
  have hrep : (Array.map (fun i => z.cells[i % z.cells.size]!) (Array.range (c.toNat * size))).toList = rep c.toNat zero := by
    have := zeroCells_ok c.toNat hz3
    simp only [Builtin.zeroCells] at this
    have hsz : z.cells.size = size := by rw [← hzs, hz3]; simp
    rw [hsz] at this ⊢
    exact this
  have hwl : IntKind.i64.wrap l = l := IntWalk.i64_in _ (by omega)
  have hwc : IntKind.i64.wrap c = c := IntWalk.i64_in _ (by omega)
  have hcs : LRel ρ (rep c.toNat zero) (if c.toNat * size = 0 then (#[] : Array Value) else (Array.map (fun i => z.cells[i % z.cells.size]!) (Array.range (c.toNat * size)))).toList := by
    split
    · rename_i h
      have : (rep c.toNat zero) = [] := by
        apply List.length_eq_zero_iff.1
        rw [rep_length, hzs]; exact h
      rw [this]; exact LRel.nil ρ
    · rw [hrep]; exact plain_all (rep_plain hz4)
  refine Ok.of_run ?_ (Eff.made (s := 0) (cs := (if c.toNat * size = 0 then (#[] : Array Value) else (Array.map (fun i => z.cells[i % z.cells.size]!) (Array.range (c.toNat * size))))) (e := elem) hd hcs) ?_ (v' := .slice (some ⟨w.heap.size, 0, none⟩) l.toNat c.toNat)
  · have e1 : (decide (c < 0) || decide ((b : Int) * c > 2 ^ 48)) = false := by
      have : (b : Int) * c ≤ 2 ^ 47 := by rw [Int.mul_comm]; exact hcb
      simp
      omega
    have e2 : ¬ l < 0 := by omega
    have e3 : ¬ l > c := by omega
    simp only [Instr.makeSlice, Sem.run_bind, run_underlying hu, Result.andThen_ok, asInt, asIntOf, Sem.run_pure, typeInfo, run_program, hi, hib, hwl, hwc]
    simp only [e1, e2, e3, decide_false, Bool.or_self, Bool.false_eq_true, if_false, Sem.run_bind, run_askRoom, Result.andThen_ok, run_size hs, Sem.run_pure]
    by_cases hn : c.toNat * size = 0
    · simp [hn, run_newRow, Sem.run_bind]
      rw [range_map_zero]
    · simp [hn, hz1, run_newRow, Sem.run_bind]
  · exact VRel.slice (ρ := upd ρ h.length ⟨w.heap.size, 0, 0, _⟩) (o := 0) (o' := 0) (upd_at _ _ _) (Nat.le_refl _) (.inl rfl) (by omega) (.inl rfl)

end Go.Ai
