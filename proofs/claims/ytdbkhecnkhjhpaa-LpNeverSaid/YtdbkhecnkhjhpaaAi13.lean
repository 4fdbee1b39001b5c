/- More operations on maps; the steps through them. -/
import Derived.Test.YtdbkhecnkhjhpaaAi12
namespace Go.Ai
open Go.RowKit
set_option linter.unusedSimpArgs false
set_option linter.unusedVariables false
variable {P : Program} {ρ : RM} {w : World}
section
variable {t key elem : TypeId} {sh : List (Option IntKind)} {agg : Bool}

theorem set_self_step {st : St} {b : Nat} {o : O} (hb : st.h[b]? = some o) : ({ st with fl := min st.fl b } : St) = { st with h := st.h.set b o, fl := min st.fl b } := by
  rw [list_set_same hb]

def entSt (st : St) (b clock : Nat) (es : List MapEntry) (k zero : Value) : Option (Nat × Value) → Value × St
  | some (i, v) => (.tuple #[v, .int .i64 (((es[i]?).map (·.born)).getD 0)], { st with fl := min st.fl b })
  | none => (.tuple #[zero, .int .i64 clock], { st with h := st.h.set b (.map (es ++ [{ key := k, val := zero, born := clock }]) (clock + 1)), fl := min st.fl b })

theorem mapEntry_ok {st : St} {b clock : Nat} {es : List MapEntry} {f : Option (Nat × Value)} {k k' m' zero : Value} (hu : P.underlying t = some (.map key elem)) (hk : keyC P key = some (sh, agg)) (hz : zeroVC P elem = some zero)
    (hm : VRel ρ (.map (some b)) m') (hb : st.h[b]? = some (.map es clock)) (hsee : ∀ o, st.h[b]? = some o → ∃ L, ρ b = some L ∧ CRel ρ w L o) (hkk : VRel ρ k k') (hf : findK sh agg k es = some f) :
    StepOk ρ w st (entSt st b clock es k zero f).2 (entSt st b clock es k zero f).1 [b] ((do pure (Next.value (← Instr.mapEntry t m' k')) : Sem Next).run P w) := by
  obtain ⟨cs, hcs, hks, rfl⟩ := findK_inv hf
  obtain rfl := key_same hcs hkk
  obtain ⟨L, hL, rfl⟩ := hm.inv_map
  obtain ⟨L', hL', hc⟩ := hsee _ hb
  obtain rfl : L = L' := Option.some.inj (hL.symm.trans hL')
  obtain ⟨ys, h1, h2, h3⟩ := hc.map_inv
  have hlt : b < st.h.length := (List.getElem?_eq_some_iff.1 hb).1
  have hfind := run_findKey_shape (w := w) hk hcs (h2.keys hks)
  have htup : ∀ a a' (n : Nat), VRel ρ a a' → VRel ρ (.tuple #[a, .int .i64 n]) (.tuple #[a', .int .i64 n]) := fun a a' n h => VRel.tuple' (LRel.cons h (LRel.cons (flat_int _ _) (LRel.nil ρ)))
  rcases find_rel cs 0 h2 with ⟨a1, a2⟩ | ⟨j, e, e', a1, a2, a3, a4, a5, a6⟩
  · rw [a1]
    obtain ⟨z1, z2⟩ := zeroVC_ok (ρ := ρ) hz
    refine .wrote (by simp) (by simp) ⟨_, hb, rfl⟩ ⟨ρ, .tuple #[zero, .int .i64 clock], _, .inl ?_, Eff.wrote hL hlt (wrote_setObj (.map (ys ++ [({ key := k', val := zero, born := clock } : MapEntry)]).toArray (clock + 1)) h1) ?_, htup _ _ _ z2⟩
    · simp [Instr.mapEntry, Sem.run_bind, run_underlying hu, run_getObj h1, check_key hk hcs, hfind, a2, z1, run_setObj _ h1, goInt]
    · refine CRel.of_map (wrote_setObj _ h1).at_ (h2.snoc ⟨rfl, z2, rfl⟩) fun e he => ?_
      rcases List.mem_append.1 he with he | he
      · exact Nat.lt_succ_of_lt (h3 e he)
      · simp at he; subst he; exact Nat.lt_succ_self _
  · rw [a1]
    simp only [Nat.zero_add] at a1 a2 ⊢
    have hkey : e.key = k' := by
      obtain ⟨ce, hce⟩ : ∃ ce, keyCells sh agg e.key = some ce := by
        have := List.all_eq_true.1 hks e (List.mem_of_getElem? a3)
        exact Option.isSome_iff_exists.1 this
      exact (key_inj hcs hce (by rw [(keyCells_iff hce).1]; exact a6)).symm
    have hek : e'.key = k' := a5.1.trans hkey
    simp only [entSt]
    rw [set_self_step hb]
    refine .wrote (by simp) (by simp) ⟨_, hb, rfl⟩ ⟨ρ, .tuple #[e'.val, .int .i64 e.born], _, .inl ?_, Eff.wrote hL hlt (wrote_setObj (.map (ys.modify j fun e => { e with key := k' }).toArray clock) h1) ?_, ?_⟩
    · simp [Instr.mapEntry, Sem.run_bind, run_underlying hu, run_getObj h1, check_key hk hcs, hfind, a2, a4, hek, run_keyStays hcs, run_setObj _ h1, goInt, a5.2.2]
    · refine CRel.of_map (wrote_setObj _ h1).at_ ?_ h3
      have := h2.modify j (f := id) (g := fun e => { e with key := k' }) fun a b ha hb hab => ⟨by rw [a3] at ha; obtain rfl := Option.some.inj ha; exact hkey.symm, hab.2⟩
      rwa [List.modify_id] at this
    · simp only [a3, Option.map_some, Option.getD_some]
      exact htup _ _ _ a5.2.1

theorem findIdx_born {xs : List MapEntry} (born : Int) : ∀ {ys : List MapEntry}, ERel ρ xs ys → ys.findIdx? (fun e => (e.born : Int) == born) = xs.findIdx? (fun e => (e.born : Int) == born) := by
  induction xs with
  | nil =>
    intro ys h
    have : ys = [] := by have := h.1; simpa using this.symm
    subst this; rfl
  | cons x xs ih =>
    intro ys h
    obtain ⟨y, ys', rfl, h1, h2⟩ := h.uncons
    simp only [List.findIdx?_cons, h1.2.2, ih h2]

theorem entryStore_ok {st : St} {b clock i : Nat} {born : Int} {es : List MapEntry} {m' s' x x' : Value} (hm : VRel ρ (.map (some b)) m') (hb : st.h[b]? = some (.map es clock)) (hsee : ∀ o, st.h[b]? = some o → ∃ L, ρ b = some L ∧ CRel ρ w L o)
    (hs : VRel ρ (.int .i64 born) s') (hx : VRel ρ x x') (hi : es.findIdx? (fun en => (en.born : Int) == born) = some i) :
    StepOk ρ w st { st with h := st.h.set b (.map (es.modify i fun en => { en with val := x }) clock), fl := min st.fl b } undef [b] ((do Instr.entryStore t m' s' x'; pure Next.skip : Sem Next).run P w) := by
  obtain ⟨L, hL, rfl⟩ := hm.inv_map
  obtain rfl := hs.int
  obtain ⟨L', hL', hc⟩ := hsee _ hb
  obtain rfl : L = L' := Option.some.inj (hL.symm.trans hL')
  obtain ⟨ys, h1, h2, h3⟩ := hc.map_inv
  have hlt : b < st.h.length := (List.getElem?_eq_some_iff.1 hb).1
  have hi' : ys.findIdx? (fun en => (en.born : Int) == born) = some i := by rw [findIdx_born born h2]; exact hi
  refine .wrote (by simp) (by simp) ⟨_, hb, rfl⟩ ⟨ρ, undef, _, .inr ⟨?_, rfl⟩, Eff.wrote hL hlt (wrote_setObj (.map (ys.modify i fun e => { e with val := x' }).toArray clock) h1) ?_, VRel.undef_ ρ⟩
  · simp [Instr.entryStore, Sem.run_bind, run_getObj h1, asInt, asIntOf, hi', run_setObj _ h1]
  · exact CRel.of_map (wrote_setObj _ h1).at_ (h2.modify i fun a b ha hb hab => ⟨hab.1, hx, hab.2.2⟩) (born_modify h3 i fun e => rfl)

theorem ERel.erase {xs : List MapEntry} : ∀ {ys : List MapEntry} (i : Nat), ERel ρ xs ys → ERel ρ (xs.eraseIdx i) (ys.eraseIdx i) := by
  induction xs with
  | nil =>
    intro ys i h
    have : ys = [] := by have := h.1; simpa using this.symm
    subst this; exact h
  | cons x xs ih =>
    intro ys i h
    obtain ⟨y, ys', rfl, h1, h2⟩ := h.uncons
    cases i with
    | zero => exact h2
    | succ i => exact ERel.cons h1 (ih i h2)

def delEs (es : List MapEntry) : Option (Nat × Value) → List MapEntry
  | some (i, _) => es.eraseIdx i
  | none => es

theorem delete_ok {st : St} {b clock : Nat} {es : List MapEntry} {f : Option (Nat × Value)} {k k' m' : Value} {aT ty : TypeId} (hu : P.underlying t = some (.map key elem)) (hk : keyC P key = some (sh, agg))
    (hm : VRel ρ (.map (some b)) m') (hb : st.h[b]? = some (.map es clock)) (hsee : ∀ o, st.h[b]? = some o → ∃ L, ρ b = some L ∧ CRel ρ w L o) (hkk : VRel ρ k k') (hf : findK sh agg k es = some f) :
    StepOk ρ w st { st with h := st.h.set b (.map (delEs es f) clock), fl := min st.fl b } undef [b] ((do pure (Next.value (← Builtin.delete_ #[t, aT] ty #[m', k'])) : Sem Next).run P w) := by
  obtain ⟨cs, hcs, hks, rfl⟩ := findK_inv hf
  obtain rfl := key_same hcs hkk
  obtain ⟨L, hL, rfl⟩ := hm.inv_map
  obtain ⟨L', hL', hc⟩ := hsee _ hb
  obtain rfl : L = L' := Option.some.inj (hL.symm.trans hL')
  obtain ⟨ys, h1, h2, h3⟩ := hc.map_inv
  have hlt : b < st.h.length := (List.getElem?_eq_some_iff.1 hb).1
  have hfind := run_findKey_shape (w := w) hk hcs (h2.keys hks)
  rcases find_rel cs 0 h2 with ⟨a1, a2⟩ | ⟨j, e, e', a1, a2, a3, a4, a5, a6⟩
  · rw [a1]
    refine .wrote (by simp) (by simp) ⟨_, hb, rfl⟩ ⟨ρ, undef, _, .inl ?_, Eff.wrote hL hlt (wrote_setObj (.map ys.toArray clock) h1) (CRel.of_map (wrote_setObj _ h1).at_ h2 h3), VRel.undef_ ρ⟩
    simp [Builtin.delete_, Sem.run_bind, run_underlying hu, run_getObj h1, check_key hk hcs, hfind, a2, run_setObj _ h1]
    rfl
  · rw [a1]
    simp only [Nat.zero_add] at a1 a2 ⊢
    refine .wrote (by simp) (by simp) ⟨_, hb, rfl⟩ ⟨ρ, undef, _, .inl ?_, Eff.wrote hL hlt (wrote_setObj (.map (ys.eraseIdx j).toArray clock) h1) (CRel.of_map (wrote_setObj _ h1).at_ (h2.erase j) fun e he => h3 e (List.mem_of_mem_eraseIdx he)), VRel.undef_ ρ⟩
    simp [Builtin.delete_, Sem.run_bind, run_underlying hu, run_getObj h1, check_key hk hcs, hfind, a2, run_setObj _ h1]
    rfl

theorem range_ok {st : St} (hd : Dom ρ st.h) {b clock : Nat} {es : List MapEntry} {x' : Value} (hu : P.underlying t = some (.map key elem)) (hm : VRel ρ (.map (some b)) x') (hb : st.h[b]? = some (.map es clock)) (hsee : ∀ o, st.h[b]? = some o → ∃ L, ρ b = some L ∧ CRel ρ w L o) :
    StepOk ρ w st { st with h := st.h ++ [.iter (some b) clock [] clock] } (.pointer (some ⟨st.h.length, 0, none⟩)) [] ((do pure (Next.value (← Instr.range t x')) : Sem Next).run P w) := by
  obtain ⟨L, hL, rfl⟩ := hm.inv_map
  obtain ⟨L', hL', hc⟩ := hsee _ hb
  obtain rfl : L = L' := Option.some.inj (hL.symm.trans hL')
  obtain ⟨ys, h1, h2, h3⟩ := hc.map_inv
  have hv := VRel.at_new (ρ := ρ) (h := st.h) w.heap.size 0 0
  refine .made rfl (Ok.of_run (v' := .pointer (some ⟨w.heap.size, 0, none⟩)) (w' := { w with heap := w.heap.push (.mapIter (some L.b) clock #[] clock) }) ?_ (Eff.madeO hd fun w' hw => ⟨rfl, some L.b, by rw [hw]; exact heap_push_at w _, L, upd_le _ hd.fresh _ _ hL, rfl⟩) hv)
  simp [Instr.range, Sem.run_bind, run_underlying hu, run_getObj h1]

end

theorem ERel.filter {p : Nat → Bool} {xs : List MapEntry} : ∀ {ys : List MapEntry}, ERel ρ xs ys → ERel ρ (xs.filter fun e => p e.born) (ys.filter fun e => p e.born) := by
  induction xs with
  | nil =>
    intro ys h
    have : ys = [] := by have := h.1; simpa using this.symm
    subst this; exact h
  | cons x xs ih =>
    intro ys h
    obtain ⟨y, ys', rfl, h1, h2⟩ := h.uncons
    simp only [List.filter_cons, h1.2.2]
    split
    · exact ERel.cons h1 (ih h2)
    · exact ih h2

theorem iterMap_two {h : List O} {r b since stepped : Nat} {seen : List Nat} (hr : h[r]? = some (.iter (some b) since seen stepped)) : iterMap h [r] = [r, b] := by simp [iterMap, hr]

/-- The step through a map: it is over, or it goes to one of the candidates. -/
theorem next_ok {st : St} {ty : TypeId} {it it' : Value} {r b since : Nat} {seen : List Nat} {l : List MapEntry} (hn : nextC it st = some (r, b, since, seen, l)) (hi : VRel ρ it it') (hsee : Sees ρ w st.h (iterMap st.h (blk it))) :
    blk it = [r] ∧ ((l = [] ∧ StepOk ρ w st st nextOver [r] ((do pure (Next.value (← Instr.next it' false ty)) : Sem Next).run P w)) ∨
    ∃ en ∈ l, StepOk ρ w st (nextTo r b since seen en st).2 (nextTo r b since seen en st).1 [r] ((do pure (Next.value (← Instr.next it' false ty)) : Sem Next).run P w)) := by
  unfold nextC at hn
  split at hn
  · rename_i r0
    split at hn
    · rename_i b0 since0 seen0 stepped0 hr
      split at hn
      · rename_i es clock hb
        split at hn
        · rename_i hst
          subst hst
          simp only [nextL, Option.map_eq_some_iff, Option.ite_none_right_eq_some, Option.some.injEq, Prod.mk.injEq] at hn
          obtain ⟨l', ⟨⟨hcl, hplain⟩, rfl⟩, rfl, rfl, rfl, rfl, rfl⟩ := hn
          subst hcl
          obtain ⟨Lr, hLr, rfl⟩ := hi.inv_ptr
          have hbr : blk (.pointer (some ⟨r0, 0, none⟩)) = [r0] := rfl
          rw [hbr, iterMap_two hr] at hsee
          obtain ⟨Lr', hLr', hcr⟩ := hsee r0 (by simp) _ hr
          obtain rfl : Lr = Lr' := Option.some.inj (hLr.symm.trans hLr')
          obtain ⟨Lb, hLb, hcb⟩ := hsee b0 (by simp) _ hb
          obtain ⟨hsh, m', g1, Lb', hLb', rfl⟩ := hcr
          obtain rfl : Lb = Lb' := Option.some.inj (hLb.symm.trans hLb')
          obtain ⟨ys, h1, h2, h3⟩ := hcb.map_inv
          refine ⟨rfl, ?_⟩
          rw [hsh, Nat.add_zero]
          obtain ⟨ls, hdef⟩ : ∃ ls, ls = ys.filter fun e => !seen0.contains e.born := ⟨_, rfl⟩
          have hls : ERel ρ (es.filter fun e => !seen0.contains e.born) ls := hdef ▸ h2.filter (p := fun n => !seen0.contains n)
          have hyb : ∀ e ∈ ys, e.born < clock := fun e he => by
            obtain ⟨i, hi⟩ := List.getElem?_of_mem he
            have hlt : i < es.length := by rw [h2.1]; exact (List.getElem?_eq_some_iff.1 hi).1
            have := h2.2 i es[i] e (by simp [hlt]) hi
            rw [this.2.2]
            exact h3 _ (List.getElem_mem hlt)
          have hcond : (!seen0.toArray.isEmpty && !ys.toArray.isEmpty && ys.toArray.all fun e => decide (e.born ≥ clock)) = false := by
            cases ys with
            | nil => simp
            | cons y ys => have := hyb y (by simp); simp; intro _ h; omega
          have hold : ls.filter (fun e => decide (e.born < clock)) = ls := List.filter_eq_self.2 fun e he => by subst hdef; simpa using hyb e (List.mem_filter.1 he).1
          have hnew : ls.filter (fun e => decide (e.born ≥ clock)) = [] := List.filter_eq_nil_iff.2 fun e he => by subst hdef; simpa using hyb e (List.mem_filter.1 he).1
          let C : Array (Option MapEntry) := (if ls.toArray.isEmpty then #[none] else #[]) ++ ls.toArray.map some
          have hrun : (Instr.next (.pointer (some ⟨Lr.b, 0, none⟩)) false ty).run P w = ((choose (.mapNext C.size)).run P w).andThen fun c w' =>
              (match C[c]? with
                | some (some e) => do
                  setObj Lr.b (.mapIter (some Lb.b) clock (seen0.toArray.push e.born) clock)
                  pure (.tuple #[.bool true, e.key, e.val])
                | some none => pure (.tuple #[.bool false])
                | none => stuck "Next: no such candidate" : Sem Value).run P w' := by
            have e1 : (ys.toArray.filter fun e => !seen0.toArray.contains e.born) = ls.toArray := by rw [hdef]; simp
            have e2 : (ls.toArray.filter fun e => decide (e.born < clock)) = ls.toArray := by rw [List.filter_toArray, hold]
            have e3 : (ls.toArray.filter fun e => decide (e.born ≥ clock)) = #[] := by rw [List.filter_toArray, hnew]
            simp only [Instr.next, Sem.run_bind, run_getObj g1, run_getObj h1, Result.andThen_ok, hcond, Bool.false_eq_true, if_false, Sem.run_pure, e1, e2, e3, Array.append_empty]
            rfl
          have hsize : 0 < C.size := by
            cases ls with
            | nil => simp [C]
            | cons a l => simp [C]
          obtain ⟨c, w1, hch, hc, hw1⟩ : ∃ c w1, (choose (.mapNext C.size)).run P w = .ok c w1 ∧ c < C.size ∧ (w1 = w ∨ w1 = { w with drawn := w.drawn + 1 }) := by
            by_cases hf : C.size ≤ 1
            · exact ⟨0, w, by simp [choose, Sem.run, Question.forced, hf], hsize, .inl rfl⟩
            · exact ⟨w.tape w.drawn (.mapNext C.size) % C.size, { w with drawn := w.drawn + 1 }, by simp [choose, Sem.run, Question.forced, hf, Question.cut], Nat.mod_lt _ hsize, .inr rfl⟩
          have hheap : w1.heap = w.heap ∧ w1.os = w.os ∧ w1.tape = w.tape ∧ w1.output = w.output := by
            rcases hw1 with rfl | rfl <;> exact ⟨rfl, rfl, rfl, rfl⟩
          rw [hch, Result.andThen_ok] at hrun
          cases hlc : ls with
          | nil =>
            left
            have hes : (es.filter fun e => !seen0.contains e.born) = [] := by
              have := hls.1; rw [hlc] at this; simpa using this
            refine ⟨hes, .still ⟨ρ, nextOver, w1, .inl ?_, Eff.grew ρ w w1 st.h hheap.2.1 hheap.2.2.1 hheap.2.2.2 (by rw [hheap.1]; exact Nat.le_refl _) (fun k _ => by rw [hheap.1]), ?_⟩⟩
            · have hC : C = #[none] := by simp [C, hlc]
              have hc0 : c = 0 := by rw [hC] at hc; simpa using hc
              rw [Sem.run_bind, hrun, hC, hc0]
              rfl
            · exact VRel.tuple' (LRel.cons (flat_bool _) (LRel.nil ρ))
          | cons y0 l0 =>
            right
            have hC : C = ls.toArray.map some := by simp [C, hlc]
            have hcl : c < ls.length := by rw [hC] at hc; simpa using hc
            have hcl2 : c < (es.filter fun e => !seen0.contains e.born).length := by rw [hls.1]; exact hcl
            have hCc : C[c]? = some (some ls[c]) := by rw [hC]; simp [hcl]
            refine ⟨(es.filter fun e => !seen0.contains e.born)[c], List.getElem_mem hcl2, ?_⟩
            have hent := hls.2 c _ _ (List.getElem?_eq_getElem hcl2) (List.getElem?_eq_getElem hcl)
            have hpk : plain1 (es.filter fun e => !seen0.contains e.born)[c].key = true := List.all_eq_true.1 hplain _ (List.mem_filter.1 (List.getElem_mem hcl2)).1
            generalize (es.filter fun e => !seen0.contains e.born)[c] = en at hent hpk
            rw [hCc] at hrun
            generalize ls[c] = en' at hent hrun
            have hg1 : w1.heap[Lr.b]? = some (.mapIter (some Lb.b) clock seen0.toArray clock) := by rw [hheap.1]; exact g1
            have hlt : r0 < st.h.length := (List.getElem?_eq_some_iff.1 hr).1
            have hwr := wrote_setObj (.mapIter (some Lb.b) clock (seen0.toArray.push en'.born) clock) hg1
            have hwr2 : Wrote w { w1 with heap := w1.heap.setIfInBounds Lr.b (.mapIter (some Lb.b) clock (seen0.toArray.push en'.born) clock) } Lr.b (.mapIter (some Lb.b) clock (seen0.toArray.push en'.born) clock) :=
              ⟨hwr.os.trans hheap.2.1, hwr.tape.trans hheap.2.2.1, hwr.output.trans hheap.2.2.2, by rw [hwr.size, hheap.1], hwr.at_, fun k hk => by rw [hwr.other k hk, hheap.1]⟩
            simp only [nextTo]
            refine .wrote (by simp) (by simp) ⟨_, hr, rfl⟩ ⟨ρ, .tuple #[.bool true, en'.key, en'.val], _, .inl ?_, Eff.wrote hLr hlt hwr2 ⟨hsh, some Lb.b, ?_, Lb, hLb, rfl⟩, ?_⟩
            · rw [Sem.run_bind, hrun]
              simp [Sem.run_bind, run_setObj _ hg1]
            · rw [hwr2.at_, hent.2.2]
              simp
            · exact VRel.tuple' (LRel.cons (flat_bool _) (LRel.cons (by rw [hent.1]; exact plain1_rel hpk) (LRel.cons hent.2.1 (LRel.nil ρ))))
        · cases hn
      · cases hn
    · cases hn
  · cases hn

theorem find_born {xs : List MapEntry} (s : Nat) : ∀ {ys : List MapEntry}, ERel ρ xs ys → ∀ e, xs.find? (fun e => e.born == s) = some e → ∃ e', ys.find? (fun e => e.born == s) = some e' ∧ EntRel ρ e e' := by
  induction xs with
  | nil => intro ys h e he; simp at he
  | cons x xs ih =>
    intro ys h e he
    obtain ⟨y, ys', rfl, h1, h2⟩ := h.uncons
    rw [List.find?_cons] at he ⊢
    rw [h1.2.2]
    cases hb : (x.born == s) with
    | true => rw [hb] at he; obtain rfl := Option.some.inj he; exact ⟨y, rfl, h1⟩
    | false => rw [hb] at he; exact ih h2 e he

theorem entry_ok {st : St} {r b since stepped clock stamp : Nat} {seen : List Nat} {es : List MapEntry} {it' : Value} {en : MapEntry} (hi : VRel ρ (.pointer (some ⟨r, 0, none⟩)) it') (hr : st.h[r]? = some (.iter (some b) since seen stepped)) (hb : st.h[b]? = some (.map es clock))
    (hst : clock = stepped) (hs : seen.getLast? = some stamp) (hp : es.all (fun e => plain1 e.key) = true) (hf : es.find? (fun e => e.born == stamp) = some en) (hsee : Sees ρ w st.h [r, b]) :
    ∃ v', (Instr.entry it').run P w = .ok v' w ∧ VRel ρ (.tuple #[en.key, en.val]) v' := by
  subst hst
  obtain ⟨Lr, hLr, rfl⟩ := hi.inv_ptr
  obtain ⟨Lr', hLr', hcr⟩ := hsee r (by simp) _ hr
  obtain rfl : Lr = Lr' := Option.some.inj (hLr.symm.trans hLr')
  obtain ⟨Lb, hLb, hcb⟩ := hsee b (by simp) _ hb
  obtain ⟨hsh, m', g1, Lb', hLb', rfl⟩ := hcr
  obtain rfl : Lb = Lb' := Option.some.inj (hLb.symm.trans hLb')
  obtain ⟨ys, h1, h2, h3⟩ := hcb.map_inv
  obtain ⟨e', he1, he2⟩ := find_born stamp h2 en hf
  have hpk := List.all_eq_true.1 hp en (List.mem_of_find?_eq_some hf)
  rw [hsh, Nat.add_zero]
  refine ⟨.tuple #[e'.key, e'.val], ?_, VRel.tuple' (LRel.cons (by rw [he2.1]; exact plain1_rel hpk) (LRel.cons he2.2.1 (LRel.nil ρ)))⟩
  simp [Instr.entry, Sem.run_bind, run_getObj g1, run_getObj h1, hs, he1]

end Go.Ai
