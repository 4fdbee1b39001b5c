/- The operations on maps. -/
import Derived.Test.YtdbkhecnkhjhpaaAi11
namespace Go.Ai
open Go.RowKit
set_option linter.unusedSimpArgs false
set_option linter.unusedVariables false
variable {P : Program} {ρ : RM} {w : World}

def isMapO : Obj → Bool
  | .cells _ _ _ => false
  | _ => true
theorem run_getObj {r : Nat} {ob : Obj} (h : w.heap[r]? = some ob) (hm : isMapO ob = true := by rfl) : (getObj r).run P w = .ok ob w := by cases ob <;> simp [isMapO] at hm <;> simp [getObj, Sem.run, h]
theorem run_setObj {r : Nat} {ob : Obj} (o : Obj) (h : w.heap[r]? = some ob) (hm : isMapO ob = true := by rfl) : (setObj r o).run P w = .ok () { w with heap := w.heap.setIfInBounds r o } := by cases ob <;> simp [isMapO] at hm <;> simp [setObj, Sem.run, h]
theorem wrote_setObj {r : Nat} {ob : Obj} (o : Obj) (h : w.heap[r]? = some ob) : Wrote w { w with heap := w.heap.setIfInBounds r o } r o := by
  have hlt : r < w.heap.size := (Array.getElem?_eq_some_iff.1 h).1
  exact ⟨rfl, rfl, rfl, by simp, by simp [hlt], fun k hk => by simp [Ne.symm hk]⟩

abbrev ERel (ρ : RM) (xs ys : List MapEntry) : Prop := xs.length = ys.length ∧ ∀ (i : Nat) a b, xs[i]? = some a → ys[i]? = some b → EntRel ρ a b

theorem ERel.uncons {x : MapEntry} {xs zs : List MapEntry} (h : ERel ρ (x :: xs) zs) : ∃ y ys, zs = y :: ys ∧ EntRel ρ x y ∧ ERel ρ xs ys := by
  cases zs with
  | nil => simp [ERel] at h
  | cons y ys => exact ⟨y, ys, rfl, h.2 0 x y rfl rfl, by simpa using h.1, fun i a b ha hb => h.2 (i + 1) a b (by simpa using ha) (by simpa using hb)⟩
theorem ERel.nil : ERel ρ [] [] := ⟨rfl, fun i a b h => by simp at h⟩
theorem ERel.cons {x y : MapEntry} {xs ys : List MapEntry} (h : EntRel ρ x y) (t : ERel ρ xs ys) : ERel ρ (x :: xs) (y :: ys) := by
  refine ⟨by simp [t.1], fun i a b ha hb => ?_⟩
  cases i with
  | zero => simp at ha hb; subst ha hb; exact h
  | succ i => exact t.2 i a b (by simpa using ha) (by simpa using hb)
theorem ERel.get {xs ys : List MapEntry} (h : ERel ρ xs ys) {i : Nat} {a : MapEntry} (ha : xs[i]? = some a) : ∃ b, ys[i]? = some b ∧ EntRel ρ a b := by
  have hi : i < xs.length := (List.getElem?_eq_some_iff.1 ha).1
  have hi' : i < ys.length := by have := h.1; omega
  exact ⟨ys[i], by simp [hi'], h.2 i _ _ ha (by simp [hi'])⟩

theorem ERel.keys {sh : List (Option IntKind)} {agg : Bool} {xs : List MapEntry} : ∀ {ys : List MapEntry}, ERel ρ xs ys → keysOk sh agg xs = true → keysOk sh agg ys = true := by
  induction xs with
  | nil =>
    intro ys h _
    have : ys = [] := by have := h.1; simpa using this.symm
    subst this; rfl
  | cons x xs ih =>
    intro ys h hk
    obtain ⟨y, ys', rfl, h1, h2⟩ := h.uncons
    simp only [keysOk, List.all_cons, Bool.and_eq_true] at hk ⊢
    exact ⟨by rw [h1.1]; exact hk.1, ih h2 hk.2⟩

theorem find_rel (cs : List Value) : ∀ {xs ys : List MapEntry} (i : Nat), ERel ρ xs ys →
    (findE cs xs i = none ∧ findE cs ys i = none) ∨ ∃ j e e', findE cs xs i = some (i + j, e.val) ∧ findE cs ys i = some (i + j, e'.val) ∧ xs[j]? = some e ∧ ys[j]? = some e' ∧ EntRel ρ e e' ∧ eqCells cs e.key.cells.toList = true := by
  intro xs
  induction xs with
  | nil =>
    intro ys i h
    have : ys = [] := by have := h.1; simpa using this.symm
    subst this
    exact .inl ⟨rfl, rfl⟩
  | cons x xs ih =>
    intro ys i h
    obtain ⟨y, ys', rfl, h1, h2⟩ := h.uncons
    simp only [findE]
    rw [h1.1]
    cases hc : eqCells cs x.key.cells.toList with
    | true => exact .inr ⟨0, x, y, by simp, by simp, rfl, rfl, h1, hc⟩
    | false =>
      rcases ih (i + 1) h2 with ⟨a, b⟩ | ⟨j, e, e', a, b, c, d, f, g⟩
      · exact .inl ⟨by simpa using a, by simpa using b⟩
      · exact .inr ⟨j + 1, e, e', by simp [a]; omega, by simp [b]; omega, by simpa using c, by simpa using d, f, g⟩

/-- A map and the machine's. -/
theorem CRel.map_inv {L : Loc} {es : List MapEntry} {clock : Nat} (h : CRel ρ w L (.map es clock)) : ∃ ys : List MapEntry, w.heap[L.b]? = some (.map ys.toArray clock) ∧ ERel ρ es ys ∧ ∀ e ∈ es, e.born < clock := by
  obtain ⟨es', h1, h2, h3, h4⟩ := h
  exact ⟨es'.toList, by simpa using h1, ⟨by simpa using h2, fun i a b ha hb => h3 i a b ha (by simpa using hb)⟩, h4⟩
theorem CRel.of_map {L : Loc} {es ys : List MapEntry} {clock : Nat} (h1 : w.heap[L.b]? = some (.map ys.toArray clock)) (h2 : ERel ρ es ys) (h3 : ∀ e ∈ es, e.born < clock) : CRel ρ w L (.map es clock) :=
  ⟨ys.toArray, h1, by simpa using h2.1, fun i a b ha hb => h2.2 i a b ha (by simpa using hb), h3⟩

theorem list_set_same {α : Type} {l : List α} {i : Nat} {a : α} (h : l[i]? = some a) : l.set i a = l := by
  apply List.ext_getElem?
  intro j
  by_cases hj : i = j
  · subst hj; rw [List.getElem?_set_self (List.getElem?_eq_some_iff.1 h).1, h]
  · rw [List.getElem?_set_ne hj]

theorem findK_inv {sh : List (Option IntKind)} {agg : Bool} {k : Value} {es : List MapEntry} {f : Option (Nat × Value)} (h : findK sh agg k es = some f) : ∃ cs, keyCells sh agg k = some cs ∧ keysOk sh agg es = true ∧ f = findE cs es 0 := by
  unfold findK at h
  split at h
  · rename_i cs hcs
    split at h
    · rename_i hk
      exact ⟨cs, hcs, hk, (Option.some.inj h).symm⟩
    · cases h
  · cases h

section
variable {t key elem : TypeId} {sh : List (Option IntKind)} {agg : Bool}

theorem check_key (hk : keyC P key = some (sh, agg)) {k : Value} {cs : List Value} (h : keyCells sh agg k = some cs) (em : Bool) : (Instr.checkKey em 10000 key k).run P w = .ok () w := by
  obtain ⟨D, hD, hsh, _, hfit⟩ := keyC_fit hk
  exact run_checkKey_shape em 8 key D sh 10000 k hD hsh (by omega) (hfit _ _ h)

theorem lookup_ok {b clock : Nat} {es : List MapEntry} {f : Option (Nat × Value)} {zero k k' m' : Value} {ok : Bool} {h : List O} (hu : P.underlying t = some (.map key elem)) (hk : keyC P key = some (sh, agg)) (hz : zeroVC P elem = some zero)
    (hm : VRel ρ (.map (some b)) m') (hb : h[b]? = some (.map es clock)) (hsee : ∀ o, h[b]? = some o → ∃ L, ρ b = some L ∧ CRel ρ w L o) (hkk : VRel ρ k k') (hf : findK sh agg k es = some f) :
    ∃ v', (Instr.lookup t m' k' ok).run P w = .ok v' w ∧ VRel ρ (let p := (match f with | some (_, v) => (v, true) | none => (zero, false)); if ok then .tuple #[p.1, .bool p.2] else p.1) v' := by
  obtain ⟨cs, hcs, hks, rfl⟩ := findK_inv hf
  obtain rfl := key_same hcs hkk
  obtain ⟨L, hL, rfl⟩ := hm.inv_map
  obtain ⟨L', hL', hc⟩ := hsee _ hb
  obtain rfl : L = L' := Option.some.inj (hL.symm.trans hL')
  obtain ⟨ys, h1, h2, h3⟩ := hc.map_inv
  have hfind := run_findKey_shape (w := w) hk hcs (h2.keys hks)
  have htup : ∀ a a' b, VRel ρ a a' → VRel ρ (.tuple #[a, .bool b]) (.tuple #[a', .bool b]) := fun a a' b h => VRel.tuple' (LRel.cons h (LRel.cons (flat_bool b) (LRel.nil ρ)))
  rcases find_rel cs 0 h2 with ⟨a1, a2⟩ | ⟨j, e, e', a1, a2, a3, a4, a5, a6⟩
  · obtain ⟨z1, z2⟩ := zeroVC_ok (ρ := ρ) hz
    refine ⟨if ok then .tuple #[zero, .bool false] else zero, ?_, ?_⟩
    · simp [Instr.lookup, Sem.run_bind, run_underlying hu, run_getObj h1, check_key hk hcs, hfind, a2, z1]
    · rw [a1]
      cases ok
      · exact z2
      · exact htup _ _ _ z2
  · refine ⟨if ok then .tuple #[e'.val, .bool true] else e'.val, ?_, ?_⟩
    · simp [Instr.lookup, Sem.run_bind, run_underlying hu, run_getObj h1, check_key hk hcs, hfind, a2]
    · rw [a1]
      cases ok
      · exact a5.2.1
      · exact htup _ _ _ a5.2.1

theorem ERel.modify {xs ys : List MapEntry} (h : ERel ρ xs ys) (i : Nat) {f g : MapEntry → MapEntry} (hfg : ∀ a b, xs[i]? = some a → ys[i]? = some b → EntRel ρ a b → EntRel ρ (f a) (g b)) : ERel ρ (xs.modify i f) (ys.modify i g) := by
  refine ⟨by simp [h.1], fun j a b ha hb => ?_⟩
  rw [List.getElem?_modify] at ha hb
  simp only [Option.map_eq_map, Option.map_eq_some_iff] at ha hb
  obtain ⟨a', ha1, ha2⟩ := ha
  obtain ⟨b', hb1, hb2⟩ := hb
  have := h.2 j a' b' ha1 hb1
  by_cases hj : i = j
  · subst hj
    simp only [if_true] at ha2 hb2
    subst ha2 hb2
    exact hfg _ _ ha1 hb1 this
  · simp only [hj, if_false] at ha2 hb2
    subst ha2 hb2
    exact this
theorem ERel.snoc {xs ys : List MapEntry} {a b : MapEntry} (h : ERel ρ xs ys) (hab : EntRel ρ a b) : ERel ρ (xs ++ [a]) (ys ++ [b]) := by
  refine ⟨by simp [h.1], fun j x y hx hy => ?_⟩
  by_cases hj : j < xs.length
  · rw [List.getElem?_append_left hj] at hx
    rw [List.getElem?_append_left (by have := h.1; omega)] at hy
    exact h.2 j x y hx hy
  · rw [List.getElem?_append_right (by omega)] at hx
    rw [List.getElem?_append_right (by have := h.1; omega), ← h.1] at hy
    have : j - xs.length = 0 := by
      have := (List.getElem?_eq_some_iff.1 hx).1
      simp at this
      omega
    rw [this] at hx hy
    simp at hx hy
    subst hx hy
    exact hab
theorem born_modify {xs : List MapEntry} {clock : Nat} (h : ∀ e ∈ xs, e.born < clock) (i : Nat) {f : MapEntry → MapEntry} (hf : ∀ e, (f e).born = e.born) : ∀ e ∈ xs.modify i f, e.born < clock := by
  intro e he
  obtain ⟨j, hj⟩ := List.getElem?_of_mem he
  rw [List.getElem?_modify] at hj
  simp only [Option.map_eq_map, Option.map_eq_some_iff] at hj
  obtain ⟨a, ha, hb⟩ := hj
  have := h a (List.mem_of_getElem? ha)
  split at hb
  · subst hb; rw [hf]; exact this
  · subst hb; exact this

def updSt (st : St) (b clock : Nat) (es : List MapEntry) (k x : Value) : Option (Nat × Value) → St
  | some (i, _) => { st with h := st.h.set b (.map (es.modify i fun en => { en with val := x }) clock), fl := min st.fl b }
  | none => { st with h := st.h.set b (.map (es ++ [{ key := k, val := x, born := clock }]) (clock + 1)), fl := min st.fl b }

theorem mapUpd_ok {st : St} {b clock : Nat} {es : List MapEntry} {f : Option (Nat × Value)} {k k' m' x x' : Value} (hu : P.underlying t = some (.map key elem)) (hk : keyC P key = some (sh, agg))
    (hm : VRel ρ (.map (some b)) m') (hb : st.h[b]? = some (.map es clock)) (hsee : ∀ o, st.h[b]? = some o → ∃ L, ρ b = some L ∧ CRel ρ w L o) (hkk : VRel ρ k k') (hx : VRel ρ x x') (hf : findK sh agg k es = some f) :
    StepOk ρ w st (updSt st b clock es k x f) undef [b]
      ((do Instr.mapUpdate t m' k' x'; pure Next.skip : Sem Next).run P w) := by
  obtain ⟨cs, hcs, hks, rfl⟩ := findK_inv hf
  obtain rfl := key_same hcs hkk
  obtain ⟨L, hL, rfl⟩ := hm.inv_map
  obtain ⟨L', hL', hc⟩ := hsee _ hb
  obtain rfl : L = L' := Option.some.inj (hL.symm.trans hL')
  obtain ⟨ys, h1, h2, h3⟩ := hc.map_inv
  have hlt : b < st.h.length := (List.getElem?_eq_some_iff.1 hb).1
  have hfind := run_findKey_shape (w := w) hk hcs (h2.keys hks)
  rcases find_rel cs 0 h2 with ⟨a1, a2⟩ | ⟨j, e, e', a1, a2, a3, a4, a5, a6⟩
  · rw [a1]
    refine .wrote (by simp) (by simp) ⟨_, hb, rfl⟩ ⟨ρ, undef, _, .inr ⟨?_, rfl⟩, Eff.wrote hL hlt (wrote_setObj (.map (ys ++ [({ key := k', val := x', born := clock } : MapEntry)]).toArray (clock + 1)) h1) ?_, VRel.undef_ ρ⟩
    · simp [Instr.mapUpdate, Sem.run_bind, run_underlying hu, run_getObj h1, check_key hk hcs, hfind, a2, run_setObj _ h1]
    · refine CRel.of_map (wrote_setObj _ h1).at_ (h2.snoc ⟨rfl, hx, rfl⟩) fun e he => ?_
      rcases List.mem_append.1 he with he | he
      · exact Nat.lt_succ_of_lt (h3 e he)
      · simp at he; subst he; exact Nat.lt_succ_self _
  · rw [a1]
    simp only [Nat.zero_add] at a1 a2 ⊢
    have hkey : e.key = k' := by
      obtain ⟨ce, hce⟩ : ∃ ce, keyCells sh agg e.key = some ce := by
        have := List.all_eq_true.1 hks e (List.mem_of_getElem? a3)
        exact Option.isSome_iff_exists.1 this
      have := key_inj hcs hce (by rw [(keyCells_iff hce).1]; exact a6)
      exact this.symm
    have a4' : ys.toArray[j]? = some e' := by simpa using a4
    have hek : e'.key = k' := a5.1.trans hkey
    refine .wrote (by simp) (by simp) ⟨_, hb, rfl⟩ ⟨ρ, undef, _, .inr ⟨?_, rfl⟩, Eff.wrote hL hlt (wrote_setObj (.map (ys.modify j fun e => { e with key := k', val := x' }).toArray clock) h1) ?_, VRel.undef_ ρ⟩
    · simp [Instr.mapUpdate, Sem.run_bind, run_underlying hu, run_getObj h1, check_key hk hcs, hfind, a2, a4, hek, run_keyStays hcs, run_setObj _ h1]
    · refine CRel.of_map (wrote_setObj _ h1).at_ (h2.modify j fun a b ha hb hab => ⟨?_, hx, hab.2.2⟩) (born_modify h3 j fun e => rfl)
      rw [a3] at ha
      obtain rfl := Option.some.inj ha
      exact hkey.symm

end
end Go.Ai
