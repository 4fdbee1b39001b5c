/- What is read before a call is read behind it. -/
import Derived.Test.YtdbkhecnkhjhpaaAiN
import Derived.Test.YtdbkhecnkhjhpaaAiW
import Derived.ChangeReads
import Derived.ChangeOld
import Derived.ChangeSame
import Derived.ChangeShapes
import Derived.RowKit
import Derived.DataShut
namespace Go.Ai
set_option linter.unusedSimpArgs false
set_option linter.unusedVariables false
open Go.ChangeShapes
section
variable {H : Type} {enc : TypeId × Value → H} {P : Program} {w : World}

theorem trod_sp {sp : Nat → Bool} : ∀ (d : Nat) (fuel : Nat) (t : TypeId) (cs : List Value) (x : DataW H × List MemPlace) (shs : List Sh), shapes P d t = some shs → DataW.trod enc P w 0 (fun _ => true) true fuel t cs = some x →
    (∀ p ∈ x.2, sp p.block = true) → DataW.trod enc P w 0 sp true fuel t cs = some x := by
  intro d
  induction d with
  | zero => intro fuel t cs x shs h; simp [shapes] at h
  | succ d ih =>
    intro fuel t cs x shs hsh hx hsp
    cases fuel with
    | zero => simp [DataW.trod] at hx
    | succ n =>
    simp only [shapes] at hsh
    split at hsh
    · rename_i k ht
      obtain ⟨m, rfl, rfl, hwf⟩ := DataW.trod_int ht hx
      simp [DataW.trod, ht, hwf]
    · rename_i ht
      obtain ⟨b, rfl, rfl⟩ := DataW.trod_bool ht hx
      simp [DataW.trod, ht]
    · rename_i e ht
      split at hsh
      · rename_i es hes
        split at hsh
        · rename_i hcond
          obtain ⟨hce, hpos, hby⟩ := hcond
          rcases DataW.trod_slice ht hx with ⟨rfl, rfl⟩ | ⟨a, len, cap, elems, rest, n', hn, rfl, rfl, _, hlc, hcm, hel, hi, hspare, _⟩
          · simp [DataW.trod, ht]
          · obtain rfl : n = n' := by omega
            obtain ⟨hr1, hr2⟩ := hspare rfl
            simp only [List.mem_append, List.mem_flatMap] at hsp
            have hel' : ∀ i, i < len → ((w.cells? 0 (a.add (i * P.cellsOf e)) (P.cellsOf e)).bind (DataW.trod enc P w 0 sp true n e)) = elems[i]? := fun i hil => by
              have h1 := hi i hil
              rw [List.getElem?_eq_getElem (by omega)] at h1 ⊢
              simp only [Option.bind_eq_some_iff] at h1 ⊢
              obtain ⟨c, q1, q2⟩ := h1
              exact ⟨c, q1, ih n e c _ es hes q2 fun p hp => hsp p (.inr ⟨_, .inl (List.getElem_mem _), hp⟩)⟩
            have hre' : ∀ j, j < cap - len → ((w.cells? 0 (a.add ((len + j) * P.cellsOf e)) (P.cellsOf e)).bind (DataW.trod enc P w 0 sp true n e)) = rest[j]? := fun j hj => by
              have h1 := hr2 j hj
              rw [List.getElem?_eq_getElem (by omega)] at h1 ⊢
              simp only [Option.bind_eq_some_iff] at h1 ⊢
              obtain ⟨c, q1, q2⟩ := h1
              exact ⟨c, q1, ih n e c _ es hes q2 fun p hp => hsp p (.inr ⟨_, .inr (List.getElem_mem _), hp⟩)⟩
            have m1 : (List.range len).mapM (fun i => (w.cells? 0 (a.add (i * P.cellsOf e)) (P.cellsOf e)).bind (DataW.trod enc P w 0 sp true n e)) = some elems :=
              mapM_some_of_get _ _ (by simp [hel]) fun i x hix => by
                obtain ⟨h1, h2⟩ := List.getElem?_eq_some_iff.1 hix
                simp at h1 h2
                subst h2
                exact hel' i h1
            have m2 : (List.range (cap - len)).mapM (fun j => (w.cells? 0 (a.add ((len + j) * P.cellsOf e)) (P.cellsOf e)).bind (DataW.trod enc P w 0 sp true n e)) = some rest :=
              mapM_some_of_get _ _ (by simp [hr1]) fun i x hix => by
                obtain ⟨h1, h2⟩ := List.getElem?_eq_some_iff.1 hix
                simp at h1 h2
                subst h2
                exact hre' i h1
            have hsa : sp a.block = true ∨ cap - len = 0 := by
              by_cases h0 : cap - len = 0
              · exact .inr h0
              · left
                refine hsp (.cell a.block (a.off + 0)) (.inl (MemPlace.mem_row.2 ⟨0, ?_, rfl⟩))
                rw [hce]
                exact Nat.mul_pos (by omega) hpos
            simp only [DataW.trod, ht]
            rw [if_pos ⟨Nat.zero_le _, hlc, hcm⟩, m1]
            simp only [Option.bind_some]
            rcases hsa with h | h
            · rw [if_pos h, m2]; rfl
            · have : rest = [] := List.length_eq_zero_iff.1 (by omega)
              subst this
              split
              · rw [m2]; rfl
              · rfl
        · cases hsh
      · cases hsh
    · rename_i fs ht
      split at hsh
      · rename_i l hl
        obtain ⟨xs, n', hn, rfl, hlen, hxs, hf⟩ := DataW.trod_struct ht hx
        obtain rfl : n = n' := by omega
        have hsh2 : ∀ f ∈ fs.toList, ∃ m, shapes P d f.type = some m := by
          have key : ∀ (l : List Field) (off : Nat) (s : List Sh), shapesFs P (shapes P d) off l = some s → ∀ f ∈ l, ∃ m, shapes P d f.type = some m := by
            intro l
            induction l with
            | nil => intro _ _ _ f hf; cases hf
            | cons g l ihl =>
              intro off s h f hf
              simp only [shapesFs] at h
              split at h
              · rename_i m hm
                split at h
                · simp only [Option.map_eq_some_iff] at h
                  obtain ⟨s2, h2, _⟩ := h
                  rcases List.mem_cons.1 hf with rfl | hf
                  · exact ⟨m, hm⟩
                  · exact ihl _ _ h2 f hf
                · cases h
              · cases h
          exact key fs.toList 0 l hl
        have m1 : fs.toList.mapM (fun f => DataW.trod enc P w 0 sp true n f.type ((cs.drop f.offset).take (P.cellsOf f.type))) = some xs :=
          mapM_some_of_get _ _ (by simp [hxs]) fun i f hif => by
            have h1 := hf i f (by simpa using hif)
            have hil : i < fs.size := by simpa using (List.getElem?_eq_some_iff.1 hif).1
            rw [List.getElem?_eq_getElem (by omega)] at h1 ⊢
            obtain ⟨m, hm⟩ := hsh2 f (List.mem_of_getElem? hif)
            exact ih n f.type _ _ m hm h1 fun p hp => hsp p (List.mem_flatMap.2 ⟨_, List.getElem_mem _, hp⟩)
        unfold DataW.trod
        rw [ht]
        have hne : ∀ y, (if cs.length = P.cellsOf t then (fs.toList.mapM fun f => DataW.trod enc P w 0 sp true n f.type ((cs.drop f.offset).take (P.cellsOf f.type))).map fun xs => (DataW.agg (xs.map (·.1)), xs.flatMap (·.2)) else none) = some y →
            (match some (TypeDesc.struct fs), cs with
              | some (.struct fs), cs => if cs.length = P.cellsOf t then (fs.toList.mapM fun f => DataW.trod enc P w 0 sp true n f.type ((cs.drop f.offset).take (P.cellsOf f.type))).map fun xs => (DataW.agg (xs.map (·.1)), xs.flatMap (·.2)) else none
              | _, _ => none) = some y := fun y h => h
        have := hne (.agg (xs.map (·.1)), xs.flatMap (·.2)) (by rw [if_pos hlen, m1]; rfl)
        revert this
        split <;> simp_all
      · cases hsh
    · rename_i k e ht
      split at hsh
      · rename_i es hes
        have hx' : (if cs.length = P.cellsOf t then ((List.range k).mapM fun i => DataW.trod enc P w 0 (fun _ => true) true n e ((cs.drop (i * P.cellsOf e)).take (P.cellsOf e))).map fun xs => (DataW.agg (xs.map (·.1)), xs.flatMap (·.2)) else none) = some x := by
          unfold DataW.trod at hx
          rw [ht] at hx
          revert hx
          split <;> simp_all
        split at hx'
        · rename_i hcl
          simp only [Option.map_eq_some_iff] at hx'
          obtain ⟨xs, hxs, rfl⟩ := hx'
          have m1 : (List.range k).mapM (fun i => DataW.trod enc P w 0 sp true n e ((cs.drop (i * P.cellsOf e)).take (P.cellsOf e))) = some xs :=
            mapM_carry hxs fun i y hi hy h => ih n e _ y es hes h fun p hp => hsp p (List.mem_flatMap.2 ⟨y, hy, hp⟩)
          have h2 : (if cs.length = P.cellsOf t then ((List.range k).mapM fun i => DataW.trod enc P w 0 sp true n e ((cs.drop (i * P.cellsOf e)).take (P.cellsOf e))).map fun xs => (DataW.agg (xs.map (·.1)), xs.flatMap (·.2)) else none) = some (DataW.agg (xs.map (·.1)), xs.flatMap (·.2)) := by
            rw [if_pos hcl, m1]; rfl
          unfold DataW.trod
          rw [ht]
          revert h2
          split <;> simp_all
        · cases hx'
      · cases hsh
    · cases hsh

theorem Trod_behind {w' : World} {sp : Nat → Bool} {t : TypeId} {v : Value} {x : DataW H} {ps : List MemPlace} {d : Nat} {shs : List Sh} (hsh : shapes P d t = some shs) (h : DataW.Trod enc P w 0 (fun _ => true) true t v x ps)
    (hw : ∀ k, k < w.heap.size → w'.heap[k]? = w.heap[k]?) (hsp : ∀ p ∈ ps, sp p.block = true) : DataW.Trod enc P w' 0 sp true t v x ps := by
  obtain ⟨fuel, hx⟩ := h
  have h1 := trod_sp d fuel t _ (x, ps) shs hsh hx hsp
  refine ⟨fuel, DataW.trod_carry fuel t _ (x, ps) h1 fun p hp => ?_⟩
  have hlt := DataW.trod_lt fuel t _ (x, ps) hx p hp
  have := hw p.block hlt
  cases p with
  | cell b off => simp only [World.sameAt, World.cell?]; simp only [MemPlace.block] at this; rw [this]
  | map b => exact this
theorem TrodAll_behind {w' : World} {sp : Nat → Bool} {d : Nat} (hw : ∀ k, k < w.heap.size → w'.heap[k]? = w.heap[k]?) : ∀ {ts : List TypeId} {vs : List Value} {ds : List (DataW H)} {ps : List MemPlace}, (∀ t ∈ ts, ∃ shs, shapes P d t = some shs) → DataW.TrodAll enc P w 0 (fun _ => true) true ts vs ds ps →
    (∀ p ∈ ps, sp p.block = true) → DataW.TrodAll enc P w' 0 sp true ts vs ds ps := by
  intro ts
  induction ts with
  | nil =>
    intro vs ds ps _ h _
    obtain ⟨rfl, rfl, rfl⟩ := trodAll_nil h
    exact rfl
  | cons t ts ih =>
    intro vs ds ps hsh h hsp
    obtain ⟨v, vs', x, ds', p, q, rfl, rfl, rfl, h1, h2⟩ := trodAll_cons h
    obtain ⟨shs, hs⟩ := hsh t (by simp)
    exact ⟨p, q, Trod_behind hs h1 hw (fun y hy => hsp y (by simp [hy])), ih (fun u hu => hsh u (by simp [hu])) h2 (fun y hy => hsp y (by simp [hy])), rfl⟩
theorem keptBut_same {w' : World} (hos : w'.os = w.os) (hout : w'.output = w.output) (hw : ∀ k, k < w.heap.size → w'.heap[k]? = w.heap[k]?) (may : MemPlace → Prop) : w.keptBut w' may := by
  refine ⟨hos, hout, fun i hi => ?_⟩
  rw [hw i hi]
  split
  · rename_i c t fr c' t' fr' h1 h2
    rw [h1] at h2
    cases h2
    exact ⟨rfl, rfl, rfl, fun _ _ => rfl⟩
  · rename_i es clock es' clock' h1 h2
    rw [h1] at h2
    cases h2
    exact .inr ⟨rfl, rfl⟩
  · rfl
/-- What a law's contract owes: nothing below was touched, and the answer is true. -/
theorem post_law {f : Func} {s : ChangeSpec} {apart fresh handsOn again : Bool} {W W' : World} {args : Array Value} {ds gs : List (DataW H)} {before : List MemPlace} {d tb : Nat}
    (hW : DataW.Whole enc P f.params.toList s.vars apart W args.toList ds gs before) (hvars : s.vars = []) (hr : f.resultTypes = #[tb]) (htb : P.underlying tb = some .bool)
    (hfn : s.fn H (ds ++ gs) = { results := [.lit (.bool true)], args := ds })
    (hsh : ∀ t ∈ f.params.toList, ∃ shs, shapes P d t = some shs) (hos : W'.os = W.os) (hout : W'.output = W.output) (hw : ∀ k, k < W.heap.size → W'.heap[k]? = W.heap[k]?) :
    s.post enc P f apart fresh handsOn again W args (.bool true) W' := by
  obtain ⟨p, q, hA, hV, hb, hz, hnd⟩ := hW
  rw [hvars] at hV
  have hV' := hV
  obtain ⟨rfl, rfl⟩ := trodVars_none hV
  have hbp : before = p := by simpa using hb
  subst hbp
  have hres : ∀ (b : Nat) (sp : Nat → Bool) (hd : Bool), DataW.TrodAll enc P W' b sp hd f.resultTypes.toList ((Value.bool true).resultList f.resultTypes.size) [.lit (.bool true)] [] := fun b sp hd => by
    rw [hr]
    exact trodAll_mk1 (Go.RowKit.shut_bool htb true)
  have hlt : ∀ p ∈ before, p.block < W.heap.size := DataW.TrodAll.lt hA
  have hargs : ∀ sp : Nat → Bool, (∀ p ∈ before, sp p.block = true) → DataW.TrodAll enc P W' 0 sp true f.params.toList args.toList ds before := fun sp hsp => TrodAll_behind hw hsh hA hsp
  refine ⟨ds, [], before, [], before, [], ⟨before, [], hA, by rw [hvars]; exact hV', by simp, hz, hnd⟩, ?_, ?_, ?_, keptBut_same hos hout hw _, fun _ => ⟨?_, [.lit (.bool true)] ++ ds, [], before, ⟨before, [], ?_, by rw [hvars]; rfl, by simp, ?_, ?_⟩, fun p hp _ => hp⟩⟩
  · rw [hfn]; exact hres _ _ _
  · rw [hfn]; exact hargs _ fun p hp => by simpa using hlt p hp
  · rw [hvars, hfn]; rfl
  · intro j t r hj hrr
    rw [hr] at hj hrr
    match j with
    | 0 =>
      simp [Value.resultList] at hj hrr
      subst hj hrr
      exact Go.RowKit.okWide_bool_mk htb true
    | j + 1 => simp at hj
  · have := trodAll_append (hargs (fun _ => true) fun _ _ => rfl) (hres 0 (fun _ => true) true)
    simpa using this
  · intro b off hp
    have h1 := hz b off hp
    have h2 := hw b (hlt _ hp)
    simp only [World.frozen?] at h1 ⊢
    rw [h2]; exact h1
  · exact hnd

/-- A law that the run answers with true. -/
theorem law_calls {E : Env} (hm : P.follows .mixedOrders = true) (hE : ∀ B, EnvOk Fence.wide P B E) (hS : SumsKept E) {f : FuncId} {args0 args' : List Value} {ρ : RM} {W : World} {st st' : St} (h : DR E f args0 ⟨st.h, st.h.length⟩ (.ret (.bool true)) st') (ha : LRel ρ args0 args') (hR : SRel W.heap.size ρ W st) :
    Calls P f args'.toArray W fun e W' => e = .returned (.bool true) ∧ W'.os = W.os ∧ W'.output = W.output ∧ ∀ k, k < W.heap.size → W'.heap[k]? = W.heap[k]? := by
  obtain ⟨m, h⟩ := h
  refine (calls_of_exec hm (hE W.heap.size) hS h rfl ha (hR.fl _)).mono fun e W' hp => ?_
  cases e with
  | returned v' =>
    obtain ⟨v, st2, ρ', ⟨h1, _⟩, h2, _, h4⟩ := hp
    obtain rfl := Out.ret.inj h1
    obtain rfl := h2.bool
    exact ⟨rfl, h4.os, h4.output, fun k hk => h4.below k hk⟩
  | panicked chain => obtain ⟨v, v', st2, ρ', ⟨h1, _⟩, _⟩ := hp; cases h1
  | outgrown => exact hp.elim

theorem ints_of {h : List O} {v : Value} (hf : Fits h (.slice [.int .i64]) v) : ∃ xs, Ints h v xs := by
  cases hf with
  | slice b o vs hn ha hr hv =>
    rename_i a n c
    have key : ∀ i, i < n → ∃ x, vs i = [.int .i64 x] ∧ I64 x := fun i hi => by
      have h1 := hr i hi
      have hl : (vs i).length = 1 := by
        unfold rdN at h1
        split at h1
        · split at h1
          · have := Option.some.inj h1
            rw [← this]
            simp at *
            omega
          · cases h1
        · cases h1
      obtain ⟨x, hx⟩ := List.length_eq_one_iff.1 hl
      have h2 := hv i 0 (.int .i64) x hi rfl (by rw [hx]; rfl)
      cases h2 with
      | int hw =>
        rename_i y
        refine ⟨y, hx, ?_⟩
        have : -9223372036854775808 ≤ y ∧ y ≤ 9223372036854775807 := by simpa [Lit.wf, IntKind.min, IntKind.max, IntKind.signed, IntKind.bits] using hw
        exact this
    refine ⟨(List.range n).map fun i => if hi : i < n then (key i hi).choose else 0, a, b, o, c, by simp, fun h0 => ha (by simpa using h0), fun i hi => ?_, fun i => ?_, by simp [reachBytes] at hn ⊢; omega⟩
    · simp at hi
      have hs := (key i hi).choose_spec
      have h1 := hr i hi
      rw [hs.1] at h1
      simp [nth, hi]
      unfold rdN at h1
      unfold rd
      split at h1
      · rename_i cc el own hb
        split at h1
        · have h2 := Option.some.inj h1
          simp at h2
          have h3 : (List.take 1 (List.drop (o + i) cc))[0]? = some (Value.int .i64 (key i hi).choose) := by rw [h2]; rfl
          rw [List.getElem?_take_of_lt (by omega), List.getElem?_drop] at h3
          simpa using h3
        · cases h1
      · cases h1
    · by_cases hi : i < n
      · simp [nth, hi]
        exact (key i hi).choose_spec.2
      · simp [nth, hi, I64]
theorem mat_of {h : List O} {v : Value} (hf : Fits h (.slice [.slice [.int .i64]]) v) : ∃ A, Mat h v A := by
  cases hf with
  | slice b o vs hn ha hr hv =>
    rename_i a n c
    have key : ∀ i, i < n → ∃ x xs, vs i = [x] ∧ Ints h x xs := fun i hi => by
      have h1 := hr i hi
      have hl : (vs i).length = 1 := by
        unfold rdN at h1
        split at h1
        · split at h1
          · have := Option.some.inj h1
            rw [← this]
            simp at *
            omega
          · cases h1
        · cases h1
      obtain ⟨x, hx⟩ := List.length_eq_one_iff.1 hl
      obtain ⟨xs, hxs⟩ := ints_of (hv i 0 _ x hi rfl (by rw [hx]; rfl))
      exact ⟨x, xs, hx, hxs⟩
    refine ⟨(List.range n).map fun i => if hi : i < n then (key i hi).choose_spec.choose else [], a, b, o, c, fun i => if hi : i < n then (key i hi).choose else undef, by simp, fun h0 => ha (by simpa using h0), fun i hi => ?_, by simp [reachBytes] at hn ⊢; omega⟩
    simp at hi
    have hs := (key i hi).choose_spec.choose_spec
    have h1 := hr i hi
    rw [hs.1] at h1
    constructor
    · simp [hi]
      unfold rdN at h1
      unfold rd
      split at h1
      · rename_i cc el own hb
        split at h1
        · have h2 := Option.some.inj h1
          simp at h2
          have h3 : (List.take 1 (List.drop (o + i) cc))[0]? = some (key i hi).choose := by rw [h2]; simp
          rw [List.getElem?_take_of_lt (by omega), List.getElem?_drop] at h3
          simpa using h3
        · cases h1
      · cases h1
    · simp only [hi, dif_pos]
      have : nthR ((List.range n).map fun i => if hi : i < n then (key i hi).choose_spec.choose else []) i = (key i hi).choose_spec.choose := by simp [nthR, hi]
      rw [this]
      exact hs.2
end
end Go.Ai
