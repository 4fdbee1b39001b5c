/- Copying and the small operations. -/
import Derived.Test.YtdbkhecnkhjhpaaAi9
namespace Go.Ai
open Go.RowKit
set_option linter.unusedSimpArgs false
set_option linter.unusedVariables false
variable {P : Program} {ρ : RM} {w : World}

theorem VRel.shorter {a : Option Addr} {n c m : Nat} {x' : Value} (h : VRel ρ (.slice a n c) x') (hm : m ≤ n) : ∃ a' c', x' = .slice a' n c' ∧ VRel ρ (.slice a m c) (.slice a' m c') := by
  cases h with
  | flat h1 h2 =>
    cases a with
    | none =>
      have : n = 0 ∧ c = 0 := by cases n <;> cases c <;> simp [Ai.flat] at h1 <;> exact ⟨rfl, rfl⟩
      obtain ⟨rfl, rfl⟩ := this
      obtain rfl : m = 0 := by omega
      exact ⟨_, _, rfl, .flat h1 h2⟩
    | some a =>
      obtain ⟨x, y, sp⟩ := a
      cases sp with
      | none => simp [Ai.flat] at h1
      | some sp => simp [isE] at h2
  | empty a =>
    obtain rfl : m = 0 := by omega
    exact ⟨_, _, rfl, .empty a⟩
  | slice h1 h2 h3 h4 h5 => exact ⟨_, _, rfl, .slice h1 h2 h3 (by omega) h5⟩

theorem blk_len {a : Option Addr} {n c m d : Nat} : blk (.slice a n c) = blk (.slice a m d) := by
  cases a with
  | none => rfl
  | some a => obtain ⟨x, y, sp⟩ := a; cases sp <;> rfl

theorem firstCells_len {size k n c n' : Nat} {a : Option Addr} : Builtin.firstCells size k (.slice a n c) = Builtin.firstCells size k (.slice a n' c) := by
  cases a <;> rfl

theorem copy_ok {st st' : St} {dT sT elem ty : TypeId} {size : Nat} {d s d' s' v : Value} (hu : P.underlying dT = some (.slice elem)) (hsz : sizeC P elem = some size) (h0 : 0 < size)
    (ha : step (.copy size (.const d) (.const s)) (ev []) st = some (.val v, st')) (hd : VRel ρ d d') (hs : VRel ρ s s') (hm : Sees ρ w st.h (blk d)) (hm2 : Sees ρ w st.h (blk s)) :
    StepOk ρ w st st' v (blk d) ((do pure (Next.value (← Builtin.copy_ #[dT, sT] ty #[d', s'])) : Sem Next).run P w) := by
  simp only [step, ev] at ha
  split at ha
  · rename_i da dn dc sa sn sc
    simp only [bind, Option.bind_eq_some_iff] at ha
    obtain ⟨l, hl, ha⟩ := ha
    obtain ⟨sa', sc', rfl, hs2⟩ := hs.shorter (Nat.min_le_left sn dn)
    obtain ⟨da', dc', hd', _⟩ := hd.shorter (Nat.le_refl dn)
    subst hd'
    obtain ⟨l', l1, l2, l3, l4, _⟩ := readSlice_ok (P := P) (w := w) hl hs2 (fun k hk => hm2 k (by rw [blk_len (m := sn) (d := sc)] at hk; exact hk))
    rw [firstCells_len (n' := sn)] at l3
    have hlen : Builtin.lenOf (.slice sa' sn sc') = (pure sn : Sem Nat) := rfl
    have hmin : Nat.min sn dn = min sn dn := rfl
    split at ha
    · rename_i hl0
      subst hl0
      have hv := Option.some.inj ha
      simp only [Prod.mk.injEq, Res.val.injEq] at hv
      obtain ⟨rfl, rfl⟩ := hv
      have hl0' : l' = [] := by have := l1.1; simpa using this.symm
      subst hl0'
      refine .still ⟨ρ, .int .i64 (min sn dn : Nat), w, .inl ?_, Eff.refl ρ w st.h, flat_int _ _⟩
      cases da' <;> simp [Builtin.copy_, Sem.run_bind, run_underlying hu, hlen, run_size hsz, hmin, l3, storeCells, goInt]
    · rename_i hl0
      split at ha
      · rename_i b o _
        simp only [bind, Option.bind_eq_some_iff, Option.some.injEq, Prod.mk.injEq, Res.val.injEq] at ha
        obtain ⟨h1, hw, rfl, rfl⟩ := ha
        obtain ⟨L, o', c', hL, e1, g1, g2, g3, g4⟩ := hd.inv_slice
        simp only [Value.slice.injEq] at e1
        obtain ⟨rfl, _, rfl⟩ := e1
        obtain rfl : o' = L.sh + o := by
          rcases g2 with g2 | g2
          · exact g2
          · exfalso
            have : dn = 0 := by omega
            subst this
            simp at l2
            exact hl0 l2
        obtain ⟨w', hr, he⟩ := wrN_ok (P := P) (w := w) hw hL (fun x hx => by
          obtain ⟨L', hL', hc⟩ := hm b (by simp [blk]) x hx
          obtain rfl : L = L' := Option.some.inj (hL.symm.trans hL')
          exact hc) l1
        refine .wrote (wrN_own hw).2 (by simp [blk]) (wrN_own hw).1 ⟨ρ, _, w', .inl ?_, he, flat_int _ _⟩
        simp [Builtin.copy_, Sem.run_bind, run_underlying hu, hlen, run_size hsz, hmin, l3, hr, goInt]
      · cases ha
  · cases ha

theorem maxmin_ok {st : St} {isMax : Bool} {aT : Array TypeId} {ty : TypeId} {xs ys : List Value} {v : Value} (h : maxminV isMax xs = some v) (hx : LRel ρ xs ys) :
    ∃ v', (if isMax then Builtin.max_ aT ty ys.toArray else Builtin.min_ aT ty ys.toArray).run P w = .ok v' w ∧ VRel ρ v v' := by
  have key : ∀ (xs ys : List Value) (x y v : Value), maxmin2 isMax x xs = some v → VRel ρ x y → LRel ρ xs ys →
      ∃ v', (ys.foldlM (if isMax then Builtin.max2 else Builtin.min2) y : Sem Value).run P w = .ok v' w ∧ VRel ρ v v' := by
    intro xs
    induction xs with
    | nil =>
      intro ys x y v h hxy hl
      have : ys = [] := by have := hl.1; simpa using this.symm
      subst this
      simp only [maxmin2, Option.some.injEq] at h
      subst h
      exact ⟨y, rfl, hxy⟩
    | cons a xs ih =>
      intro ys x y v h hxy hl
      obtain ⟨b, ys', rfl, hab, hl'⟩ := hl.uncons
      cases a with
      | int kb nb =>
        cases x with
        | int k na =>
          simp only [maxmin2] at h
          have e1 := hab.int
          have e2 := hxy.int
          subst e1 e2
          obtain ⟨v', h1, h2⟩ := ih ys' _ _ v h (flat_int k _) hl'
          refine ⟨v', ?_, h2⟩
          cases isMax <;> simp [List.foldlM, Builtin.max2, Builtin.min2, Sem.run_bind] at h1 ⊢ <;> exact h1
        | _ => simp [maxmin2] at h
      | _ => simp [maxmin2] at h
  cases xs with
  | nil => simp [maxminV] at h
  | cons x xs =>
    obtain ⟨y, ys', rfl, hxy, hl⟩ := hx.uncons
    obtain ⟨v', h1, h2⟩ := key xs ys' x y v h hxy hl
    refine ⟨v', ?_, h2⟩
    cases isMax <;> simpa [Builtin.max_, Builtin.min_] using h1

theorem Eff.madeO {h : List O} (hd : Dom ρ h) {o : O} {ob : Obj} (hc : ∀ w' : World, w'.heap = w.heap.push ob → CRel (upd ρ h.length ⟨w.heap.size, 0, 0, 0⟩) w' ⟨w.heap.size, 0, 0, 0⟩ o) :
    Eff ρ (upd ρ h.length ⟨w.heap.size, 0, 0, 0⟩) w { w with heap := w.heap.push ob } h (h ++ [o]) [] := by
  refine ⟨upd_le _ hd.fresh, ?_, rfl, rfl, rfl, by simp, fun k hk _ => heap_push_lt w _ k hk, by simp, fun id hid _ => by rw [List.getElem?_append_left hid], fun _ h => by simp at h, ?_⟩
  · intro id l hl
    unfold upd at hl
    split at hl
    · rename_i e; exact .inr (by simp; omega)
    · exact .inl hl
  · intro id h1 h2
    simp at h2
    obtain rfl : id = h.length := by omega
    exact ⟨_, o, upd_at _ _ _, by simp, hc _ rfl, .inl (Nat.le_refl _)⟩

theorem mkMap_ok {st : St} (hd : Dom ρ st.h) {t : TypeId} :
    StepOk ρ w st { st with h := st.h ++ [.map [] 0] } (.map (some st.h.length)) [] ((do pure (Next.value (← Instr.makeMap t none)) : Sem Next).run P w) := by
  refine .made rfl (Ok.of_run (v' := .map (some w.heap.size)) (w' := { w with heap := w.heap.push (.map #[] 0) }) ?_ (Eff.madeO hd fun w' hw => ⟨#[], by rw [hw]; exact heap_push_at w _, rfl, fun i a b h => by simp at h, fun e h => by simp at h⟩) (VRel.map (l := ⟨w.heap.size, 0, 0, 0⟩) (upd_at _ _ _)))
  simp [Instr.makeMap, Sem.run_bind]

theorem zeroVC_ok {t : TypeId} {z : Value} (hz : zeroVC P t = some z) : (∀ w, (zeroValue t).run P w = .ok z w) ∧ VRel ρ z z := by
  unfold zeroVC at hz
  cases hi : P.info? t with
  | none => simp [hi] at hz
  | some i =>
    cases hzz : i.zero with
    | none => simp [hi, hzz] at hz
    | some z' =>
      simp only [hi, hzz, Option.map_some] at hz
      have hr : ∀ w, (zeroValue t).run P w = .ok z' w := fun w => by simp [zeroValue, typeInfo, hi, hzz, Sem.run_bind]
      cases z' with
      | tuple vs => simp at hz
      | agg cs =>
        simp only [Bool.and_true, Option.ite_none_right_eq_some, Option.some.injEq] at hz
        obtain ⟨h1, rfl⟩ := hz
        exact ⟨hr, VRel.agg' (plain_all (by simpa [Value.cells] using h1))⟩
      | _ =>
        simp only [Bool.and_true, Option.ite_none_right_eq_some, Option.some.injEq] at hz
        obtain ⟨h1, rfl⟩ := hz
        exact ⟨hr, plain_rel (by simpa [Value.cells] using h1)⟩

theorem assert_ok {st st' : St} {d : TypeDesc} {t xT : TypeId} {z x x' v : Value} {e : Operand → Value} {X : Operand} (hu : P.underlying t = some d) (hd : ∀ m, d ≠ .interface m) (hz : zeroVC P t = some z) (hx : VRel ρ x x') (he : e X = x)
    (ha : step (.assert t z X) e st = some (.val v, st')) : st' = st ∧ ∃ v', (Instr.typeAssert x' xT t true).run P w = .ok v' w ∧ VRel ρ v v' := by
  obtain ⟨hz1, hz2⟩ := zeroVC_ok (ρ := ρ) hz
  have htup : ∀ a a' b, VRel ρ a a' → VRel ρ (.tuple #[a, .bool b]) (.tuple #[a', .bool b]) := fun a a' b h => VRel.tuple' (LRel.cons h (LRel.cons (flat_bool b) (LRel.nil ρ)))
  simp only [step, he] at ha
  split at ha
  · rename_i u y
    simp only [Option.some.injEq, Prod.mk.injEq, Res.val.injEq] at ha
    obtain ⟨rfl, rfl⟩ := ha
    obtain ⟨y', rfl, hy⟩ := hx.inv_iface
    refine ⟨rfl, ?_⟩
    by_cases hut : u = t
    · refine ⟨.tuple #[y', .bool true], ?_, by rw [if_pos hut]; exact htup _ _ _ hy⟩
      cases d <;> first
        | (exact absurd rfl (hd _))
        | (simp [Instr.typeAssert, Sem.run_bind, run_underlying hu, hut])
    · refine ⟨.tuple #[z, .bool false], ?_, by rw [if_neg hut]; exact htup _ _ _ hz2⟩
      cases d <;> first
        | (exact absurd rfl (hd _))
        | (simp [Instr.typeAssert, Sem.run_bind, run_underlying hu, hut, hz1])
  · simp only [Option.some.injEq, Prod.mk.injEq, Res.val.injEq] at ha
    obtain ⟨rfl, rfl⟩ := ha
    obtain rfl := hx.nilIface
    refine ⟨rfl, .tuple #[z, .bool false], ?_, htup _ _ _ hz2⟩
    cases d <;> first
      | (exact absurd rfl (hd _))
      | (simp [Instr.typeAssert, Sem.run_bind, run_underlying hu, hz1])
  · cases ha

end Go.Ai
