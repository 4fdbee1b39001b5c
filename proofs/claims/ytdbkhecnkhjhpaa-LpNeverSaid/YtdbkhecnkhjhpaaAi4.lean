/- What an operation does to memory; those that make and write it. -/
import Derived.Test.YtdbkhecnkhjhpaaAi3
namespace Go.Ai
open Go.RowKit
set_option linter.unusedSimpArgs false
set_option linter.unusedVariables false
variable {P : Program} {ρ : RM} {w : World}

theorem plain_flat {v : Value} (h : plain v = true) : flat v = true ∧ isE v = false := by
  unfold plain at h
  simp at h
  refine ⟨h.1, ?_⟩
  cases v <;> first | rfl | skip
  rename_i a n c
  cases a with
  | none => rfl
  | some a => simp at h
theorem plain_rel {v : Value} (h : plain v = true) : VRel ρ v v := .flat (plain_flat h).1 (plain_flat h).2
theorem plain_all {l : List Value} (h : l.all plain = true) : LRel ρ l l :=
  ⟨rfl, fun i a b ha hb => by rw [ha] at hb; obtain rfl := Option.some.inj hb; exact plain_rel (List.all_eq_true.1 h a (List.mem_of_getElem? ha))⟩

theorem plain1_rel {v : Value} (h : plain1 v = true) : VRel ρ v v := by
  cases v with
  | agg cs => exact VRel.agg' (plain_all h)
  | _ => exact plain_rel h

theorem cells_rel {v v' : Value} (h : VRel ρ v v') : LRel ρ v.cells.toList v'.cells.toList := by
  cases h with
  | agg h1 h2 => exact ⟨h1, h2⟩
  | flat h1 h2 =>
    cases v <;> first
      | (exact LRel.cons (.flat h1 h2) (LRel.nil ρ))
      | (simp [flat] at h1; done)
  | _ => exact LRel.cons (by constructor <;> assumption) (LRel.nil ρ)

/-- What has become of memory: 'ws' are the canonical blocks that were written. -/
structure Eff (ρ ρ' : RM) (w w' : World) (h h' : List O) (ws : List Nat) : Prop where
  le : ρ.le ρ'
  dom : ∀ id l, ρ' id = some l → ρ id = some l ∨ (h.length ≤ id ∧ id < h'.length)
  os : w'.os = w.os
  tape : w'.tape = w.tape
  output : w'.output = w.output
  size : w.heap.size ≤ w'.heap.size
  keep : ∀ k, k < w.heap.size → (∀ id ∈ ws, ∀ l, ρ id = some l → l.b ≠ k) → w'.heap[k]? = w.heap[k]?
  len : h.length ≤ h'.length
  same : ∀ id, id < h.length → id ∉ ws → h'[id]? = h[id]?
  old : ∀ id ∈ ws, ∀ l o, ρ id = some l → h'[id]? = some o → CRel ρ' w' l o
  new : ∀ id, h.length ≤ id → id < h'.length → ∃ l o, ρ' id = some l ∧ h'[id]? = some o ∧ CRel ρ' w' l o ∧
    (w.heap.size ≤ l.b ∨ ∃ k ∈ ws, ∃ lk, ρ k = some lk ∧ lk.b = l.b ∧ h'[k]? = some .dead)

def Ok (ρ : RM) (w : World) (h h' : List O) (ws : List Nat) (v : Value) (run : Result Next) : Prop :=
  ∃ ρ' v' w', (run = .ok (.value v') w' ∨ (run = .ok .skip w' ∧ v' = undef)) ∧ Eff ρ ρ' w w' h h' ws ∧ VRel ρ' v v'

theorem Eff.refl (ρ : RM) (w : World) (h : List O) : Eff ρ ρ w w h h [] :=
  ⟨RM.le_refl ρ, fun _ _ h => .inl h, rfl, rfl, rfl, Nat.le_refl _, fun _ _ _ => rfl, Nat.le_refl _, fun _ _ _ => rfl, fun _ h => by simp at h, fun id h1 h2 => by omega⟩

theorem ok_pure {h : List O} {v v' : Value} {s : Sem Value} (hs : s.run P w = .ok v' w) (hv : VRel ρ v v') : Ok ρ w h h [] v ((do pure (Next.value (← s)) : Sem Next).run P w) :=
  ⟨ρ, v', w, .inl (by simp [Sem.run_bind, hs]), Eff.refl ρ w h, hv⟩

/-- The machine has made a block that the abstract run knows nothing of. -/
theorem Eff.grew (ρ : RM) (w w' : World) (h : List O) (h1 : w'.os = w.os) (h2 : w'.tape = w.tape) (h3 : w'.output = w.output) (h4 : w.heap.size ≤ w'.heap.size) (h5 : ∀ k, k < w.heap.size → w'.heap[k]? = w.heap[k]?) : Eff ρ ρ w w' h h [] :=
  ⟨RM.le_refl ρ, fun _ _ h => .inl h, h1, h2, h3, h4, fun k hk _ => h5 k hk, Nat.le_refl _, fun _ _ _ => rfl, fun _ h => by simp at h, fun id h1 h2 => by omega⟩

def upd (ρ : RM) (id : Nat) (l : Loc) : RM := fun k => if k = id then some l else ρ k
theorem upd_le {ρ : RM} {id : Nat} (l : Loc) (h : ρ id = none) : ρ.le (upd ρ id l) := by
  intro k x hk
  unfold upd
  split
  · rename_i e; subst e; rw [h] at hk; cases hk
  · exact hk
theorem upd_at (ρ : RM) (id : Nat) (l : Loc) : upd ρ id l id = some l := by simp [upd]

/-- The next block is not known yet. -/
abbrev Dom (ρ : RM) (h : List O) : Prop := ρ h.length = none
theorem Dom.fresh {h : List O} (hd : Dom ρ h) : ρ h.length = none := hd

theorem heap_push_at (w : World) (o : Obj) : (w.heap.push o)[w.heap.size]? = some o := by simp
theorem heap_push_lt (w : World) (o : Obj) (k : Nat) (h : k < w.heap.size) : (w.heap.push o)[k]? = w.heap[k]? := by
  rw [Array.getElem?_push, if_neg (by omega)]

/-- A block of cells has been made. -/
theorem Eff.made {h : List O} (hd : Dom ρ h) {c : List Value} {cs : Array Value} {e : TypeId} {s : Nat} (hc : LRel ρ c cs.toList) :
    Eff ρ (upd ρ h.length ⟨w.heap.size, 0, s, cs.size⟩) w { w with heap := w.heap.push (.cells cs e) } h (h ++ [.cells c e (some s)]) [] := by
  have hle := upd_le ⟨w.heap.size, 0, s, cs.size⟩ hd.fresh
  refine ⟨hle, ?_, rfl, rfl, rfl, by simp, fun k hk _ => heap_push_lt w _ k hk, by simp, fun id hid _ => by rw [List.getElem?_append_left hid], fun _ h => by simp at h, ?_⟩
  · intro id l hl
    unfold upd at hl
    split at hl
    · rename_i e; exact .inr (by simp; omega)
    · exact .inl hl
  · intro id h1 h2
    simp at h2
    obtain rfl : id = h.length := by omega
    refine ⟨_, .cells c e (some s), upd_at _ _ _, by simp, ⟨cs, e, (0, 0), heap_push_at w _, ?_, fun s' hs' => ?_, by simp⟩, .inl (Nat.le_refl _)⟩
    · intro i v hv
      obtain ⟨v', h3, h4⟩ := hc.get hv
      exact ⟨v', by simpa using h3, h4.mono hle⟩
    · obtain rfl := Option.some.inj hs'
      exact ⟨rfl, rfl, rfl, fun _ => rfl⟩

theorem run_newRow (elem : TypeId) (cs : Array Value) : (newRow elem cs).run P w = .ok ⟨w.heap.size, 0, none⟩ { w with heap := w.heap.push (.cells cs elem) } := by
  simp [newRow, Sem.run_bind]

theorem VRel.at_new {h : List O} (c : Nat) (s sz : Nat) : VRel (upd ρ h.length ⟨c, 0, s, sz⟩) (.pointer (some ⟨h.length, 0, none⟩)) (.pointer (some ⟨c, 0, none⟩)) := by
  have := VRel.ptr (ρ := upd ρ h.length ⟨c, 0, s, sz⟩) (o := 0) (upd_at ρ h.length ⟨c, 0, s, sz⟩)
  simpa using this

theorem Ok.of_run {h h' : List O} {ws : List Nat} {v v' : Value} {s : Sem Value} {w' : World} {ρ' : RM} (hs : s.run P w = .ok v' w') (he : Eff ρ ρ' w w' h h' ws) (hv : VRel ρ' v v') :
    Ok ρ w h h' ws v ((do pure (Next.value (← s)) : Sem Next).run P w) :=
  ⟨ρ', v', w', .inl (by simp [Sem.run_bind, hs]), he, hv⟩

theorem new_ok {h : List O} (hd : Dom ρ h) {elem : TypeId} {zero : List Value} (hz : zeroC P elem = some zero) :
    Ok ρ w h (h ++ [.cells zero elem (some 0)]) [] (.pointer (some ⟨h.length, 0, none⟩)) ((do pure (Next.value (← Instr.alloc elem true (.tuple #[]))) : Sem Next).run P w) := by
  unfold zeroC at hz
  split at hz
  · rename_i z hzz
    split at hz
    · rename_i hall
      obtain rfl := Option.some.inj hz
      have hr : (zeroValue elem).run P w = .ok z w := by
        cases hi : P.info? elem with
        | none => simp [hi] at hzz
        | some i => simp [hi] at hzz; simp [zeroValue, typeInfo, hi, hzz, Sem.run_bind]
      refine Ok.of_run ?_ (Eff.made (s := 0) (cs := z.cells) (e := elem) hd (plain_all hall)) (VRel.at_new _ _ _)
      simp only [Instr.alloc, Sem.run_bind, hr, Result.andThen_ok, newVar, run_newRow, Sem.run_pure]
    · cases hz
  · cases hz

theorem box_ok {h : List O} (hd : Dom ρ h) {elem : TypeId} {x x' : Value} (hx : VRel ρ x x') :
    Ok ρ w h (h ++ [.cells x.cells.toList elem (some 0)]) [] (.pointer (some ⟨h.length, 0, none⟩)) ((do pure (Next.value (← Instr.box elem x')) : Sem Next).run P w) := by
  refine Ok.of_run ?_ (Eff.made (s := 0) (cs := x'.cells) (e := elem) hd (cells_rel hx)) (VRel.at_new _ _ _)
  simp only [Instr.box, Sem.run_bind, newVar, run_newRow, Result.andThen_ok, Sem.run_pure]

/-- A block has been written. -/
theorem Eff.wrote {h : List O} {id : Nat} {l : Loc} {o : O} {ob : Obj} {w' : World} (hl : ρ id = some l) (hi : id < h.length) (hw : Wrote w w' l.b ob) (ho : CRel ρ w' l o) : Eff ρ ρ w w' h (h.set id o) [id] := by
  refine ⟨RM.le_refl ρ, fun _ _ h => .inl h, hw.os, hw.tape, hw.output, by rw [hw.size]; exact Nat.le_refl _, ?_, by simp, ?_, ?_, fun i h1 h2 => by simp at h2; omega⟩
  · intro k hk hne
    exact hw.other k (fun e => hne id (by simp) l hl e.symm)
  · intro i hi' hne
    rw [List.getElem?_set_ne (by simp at hne; omega)]
  · intro i hi' l' o' hl' ho'
    simp at hi'
    subst hi'
    obtain rfl : l = l' := Option.some.inj (hl.symm.trans hl')
    rw [List.getElem?_set_self hi] at ho'
    obtain rfl := Option.some.inj ho'
    exact ho

theorem wrN_ok {h h' : List O} {b i : Nat} {vs vs' : List Value} {lo : Loc} (hr : wrN h b i vs = some h') (hρ : ρ b = some lo) (hm : ∀ o, h[b]? = some o → CRel ρ w lo o) (hv : LRel ρ vs vs') :
    ∃ w', (storeCells ⟨lo.b, lo.sh + i, none⟩ vs' 0).run P w = .ok () w' ∧ Eff ρ ρ w w' h h' [b] := by
  unfold wrN at hr
  split at hr
  · rename_i c e s hc
    split at hr
    · rename_i hi
      obtain rfl := Option.some.inj hr
      obtain ⟨cs, e', fz, h1, h2, h3, h9⟩ := hm _ hc
      obtain ⟨rfl, rfl, hes, hsz⟩ := h3 s rfl
      have hb : b < h.length := (List.getElem?_eq_some_iff.1 hc).1
      by_cases hvs : vs = []
      · subst hvs
        have : vs' = [] := by have := hv.1; simpa using this.symm
        subst this
        refine ⟨w, rfl, ?_⟩
        have e1 : h.set b (.cells (setL c i []) e' (some s)) = h := by
          apply List.ext_getElem?
          intro j
          by_cases hj : b = j
          · subst hj; rw [List.getElem?_set_self hb, hc]; rfl
          · rw [List.getElem?_set_ne hj]
        rw [e1]
        have := Eff.refl ρ w h
        exact ⟨this.le, this.dom, rfl, rfl, rfl, Nat.le_refl _, fun _ _ _ => rfl, Nat.le_refl _, fun _ _ _ => rfl, fun id hid l o hl ho => by
          simp at hid; subst hid
          obtain rfl : lo = l := Option.some.inj (hρ.symm.trans hl)
          exact hm _ ho, fun id a b => absurd b (Nat.not_lt.2 a)⟩
      · have hlen : lo.sh + i + vs'.length ≤ cs.size := by
          rcases h2.size with hz | hz
          · rw [hz] at hi
            have : vs.length = 0 := by have h5 := hi.1; rw [List.length_nil] at h5; omega
            exact absurd (List.length_eq_zero_iff.1 this) hvs
          · have := hv.1; omega
        obtain ⟨w', hw1, hw2⟩ := run_storeCells (P := P) vs' (lo.sh + i) 0 cs w h1 (by simpa using hlen) (fun v' hv' => by
          obtain ⟨j, hj⟩ := List.getElem?_of_mem hv'
          have hjl : j < vs.length := by rw [hv.1]; exact (List.getElem?_eq_some_iff.1 hj).1
          exact one1_ok (hv.2 j _ v' (List.getElem?_eq_getElem hjl) hj) (List.all_eq_true.1 hi.2 _ (List.getElem_mem hjl)))
        refine ⟨w', hw1, Eff.wrote hρ hb hw2 ⟨_, _, _, hw2.at_, ?_, fun s' hs' => ?_, by simp⟩⟩
        · simpa using CellsRel.set vs vs' c cs i h2 hv hi.1
        · obtain rfl := Option.some.inj hs'
          exact ⟨rfl, rfl, hes, fun h0 => by rw [setA_size]; exact hsz h0⟩
    · cases hr
  · cases hr

theorem store_ok {t : TypeId} {h h' : List O} {n b i : Nat} {a' x x' : Value} {lo : Loc} (ht : sizeC P t = some n) (hρ : ρ b = some lo) (hm : ∀ o, h[b]? = some o → CRel ρ w lo o)
    (ha : VRel ρ (.pointer (some ⟨b, i, none⟩)) a') (hx : VRel ρ x x') (hn : x.cells.toList.length = n) (hw : wrN h b i x.cells.toList = some h') :
    Ok ρ w h h' [b] undef ((do Instr.storeAt t a' x'; pure Next.skip : Sem Next).run P w) := by
  obtain ⟨lo', hl, rfl⟩ := ha.inv_ptr
  obtain rfl : lo' = lo := Option.some.inj (hl.symm.trans hρ)
  have hc := cells_rel hx
  obtain ⟨w', h1, h2⟩ := wrN_ok (P := P) hw hρ hm hc
  refine ⟨ρ, undef, w', .inr ⟨?_, rfl⟩, h2, VRel.undef_ ρ⟩
  have hs : x'.cells.size = n := by rw [← hn, hc.1]; simp
  have hsa : (Instr.sureAddr (.pointer (some ⟨lo'.b, lo'.sh + i, none⟩))).run P w = .ok ⟨lo'.b, lo'.sh + i, none⟩ w := rfl
  simp [Instr.storeAt, Sem.run_bind, hsa, storeVar, run_size ht, hs, h1]

end Go.Ai
