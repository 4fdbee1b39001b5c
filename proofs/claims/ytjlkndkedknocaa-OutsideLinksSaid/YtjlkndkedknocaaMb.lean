/- Texts that were built one by one: Ai9, Ai10, Ai11, Ai12, Ai13, Ai13s, Ai14, Ai15, Ai16, Ai17, Ai18. -/
import Derived.Test.YtjlkndkedknocaaMa
import Derived.OrdersIn
set_option linter.unusedSimpArgs false
set_option linter.unusedVariables false
namespace Go.Ai
open Go.RowKit
variable {P : Program} {ρ : RM} {w : World}
abbrev Sees (ρ : RM) (w : World) (h : List O) (bs : List Nat) : Prop := ∀ b ∈ bs, ∀ o, h[b]? = some o → ∃ L, ρ b = some L ∧ CRel ρ w L o
structure StepOk (ρ : RM) (w : World) (st st' : St) (v : Value) (wr : List Nat) (run : Result Next) : Prop where
 ok : ∃ ws, Ok ρ w st.h st'.h ws v run ∧ ∀ k ∈ ws, k ∈ wr ∧ st'.fl ≤ k ∧ ∃ o, st.h[k]? = some o ∧ o.own = true
 fl : st'.fl ≤ st.fl
 len : st'.h.length ≤ st.h.length + 1
 own : ∀ id, st.h.length ≤ id → ∀ o, st'.h[id]? = some o → o.own = true
theorem StepOk.still {st : St} {v : Value} {wr : List Nat} {run : Result Next} (h : Ok ρ w st.h st.h [] v run) : StepOk ρ w st st v wr run :=
 ⟨⟨[], h, by simp⟩, Nat.le_refl _, Nat.le_succ _, fun id hid o ho => by rw [List.getElem?_eq_none hid] at ho; cases ho⟩
theorem StepOk.made {st : St} {v : Value} {wr : List Nat} {run : Result Next} {o : O} (ho : o.own = true) (h : Ok ρ w st.h (st.h ++ [o]) [] v run) : StepOk ρ w st { st with h := st.h ++ [o] } v wr run :=
 ⟨⟨[], h, by simp⟩, Nat.le_refl _, by simp, fun id hid o' ho' => by
  have hlt := (List.getElem?_eq_some_iff.1 ho').1
  simp at hlt
  obtain rfl : id = st.h.length := by omega
  simp at ho'
  subst ho'
  exact ho⟩
theorem StepOk.wrote {st : St} {v : Value} {wr : List Nat} {run : Result Next} {h' : List O} {b : Nat} (hl : h'.length = st.h.length) (hb : b ∈ wr) (ho : ∃ o, st.h[b]? = some o ∧ o.own = true) (h : Ok ρ w st.h h' [b] v run) :
  StepOk ρ w st { st with h := h', fl := min st.fl b } v wr run :=
 ⟨⟨[b], h, fun k hk => by simp at hk; subst hk; exact ⟨hb, Nat.min_le_right _ _, ho⟩⟩, Nat.min_le_left _ _, by simp [hl], fun id hid o ho => by rw [List.getElem?_eq_none (by rw [hl]; exact hid)] at ho; cases ho⟩
theorem Sees.drew {h : List O} {bs : List Nat} (hm : Sees ρ w h bs) : Sees ρ w.drew h bs := fun b hb o ho =>
 let ⟨L, hL, hc⟩ := hm b hb o ho; ⟨L, hL, hc.same rfl⟩
theorem appendCells_own {elem : TypeId} {size b sLen sCap n : Nat} {base : Option Addr} {new : List Value} {st st' : St} {v : Value} (ha : appendCells elem size b base sLen sCap n new st = some (v, st')) :
  st'.h.length ≤ st.h.length + 1 ∧ ∀ id, st.h.length ≤ id → ∀ o, st'.h[id]? = some o → o.own = true := by
 unfold appendCells at ha
 split at ha
 ·obtain ⟨rfl, rfl⟩ := Prod.mk.inj (Option.some.inj ha)
  exact ⟨Nat.le_succ _, fun id hid o ho => by rw [List.getElem?_eq_none hid] at ho; cases ho⟩
 ·split at ha
  ·split at ha
   ·simp only [bind, Option.bind_eq_some_iff, Option.some.injEq, Prod.mk.injEq] at ha
    obtain ⟨h1, hw, rfl, rfl⟩ := ha
    have := (wrN_own hw).2
    exact ⟨by simp [this], fun id hid o ho => by rw [List.getElem?_eq_none (by rw [this]; exact hid)] at ho; cases ho⟩
   ·cases ha
  ·split at ha
   ·simp only [bind, Option.bind_eq_some_iff, Option.some.injEq, Prod.mk.injEq] at ha
    obtain ⟨old, hold, st1, hkill, rfl, rfl⟩ := ha
    have hl : st1.h.length = st.h.length := by
     cases base with
     | none => simp [kill] at hkill; rw [← hkill]
     | some a =>
      obtain ⟨bb, o, sp⟩ := a
      cases sp with
      | some sp => simp [kill] at hkill; rw [← hkill]
      | none =>
       simp only [kill] at hkill
       split at hkill
       ·split at hkill
        ·obtain rfl := Option.some.inj hkill; simp
        ·cases hkill
       ·cases hkill
    refine ⟨by simp [hl], fun id hid o ho => ?_⟩
    have hlt := (List.getElem?_eq_some_iff.1 ho).1
    simp at hlt
    obtain rfl : id = st1.h.length := by omega
    simp at ho
    subst ho
    rfl
   ·cases ha
theorem append_room {elem : TypeId} {size b sLen sCap n : Nat} {base : Option Addr} {new : List Value} {st st' : St} {v : Value} (ha : appendCells elem size b base sLen sCap n new st = some (v, st')) (hn : n ≠ 0) (hr : ¬ sLen + n ≤ sCap) :
  ∃ old, readSlice st.h size sLen base = some old := by
 unfold appendCells at ha
 rw [if_neg hn, if_neg hr] at ha
 split at ha
 ·simp only [bind, Option.bind_eq_some_iff] at ha
  obtain ⟨old, hold, _⟩ := ha
  exact ⟨old, hold⟩
 ·cases ha
theorem slice_cap {a a' : Option Addr} {n n' c c' : Nat} (h : VRel ρ (.slice a n c) (.slice a' n' c')) : n' = n ∧ c ≤ c' := by
 cases h with
 | flat _ _ => exact ⟨rfl, Nat.le_refl _⟩
 | empty a => exact ⟨rfl, Nat.le_refl _⟩
 | slice _ h _ _ _ => exact ⟨rfl, h⟩
theorem zeroC_value {t : TypeId} {zero : List Value} (hz : zeroC P t = some zero) : ∃ z, (∀ w, (zeroValue t).run P w = .ok z w) ∧ zero = z.cells.toList ∧ zero.all plain = true := by
 obtain ⟨z, h1, h2, _, h4⟩ := zeroC_run (P := P) (w := default) (ρ := fun _ => none) hz
 exact ⟨z, zeroValue_any h1, h2, h4⟩
theorem append_ok {st st' : St} (hd : st'.h.length ≠ st.h.length → Dom ρ st.h) {sT xT elem xe ty : TypeId} {size b : Nat} {zero : List Value} {s x s' x' v : Value} (hu : P.underlying sT = some (.slice elem)) (hxt : P.underlying xT = some (.slice xe)) (hsz : sizeC P elem = some size) (hb : bytesC P elem = some b)
  (hz : zeroC P elem = some zero) (h0 : 0 < size) (hb0 : 0 < b) (hzl : zero.length = size) (ha : appendV elem size b s x st = some (v, st')) (hs : VRel ρ s s') (hx : VRel ρ x x') (hm : Sees ρ w st.h (blk s)) (hm2 : Sees ρ w st.h (blk x)) :
  StepOk ρ w st st' v (blk s) ((do pure (Next.value (← Builtin.append_ #[sT, xT] ty #[s', x'])) : Sem Next).run P w) := by
 unfold appendV at ha
 split at ha
 ·rename_i base sLen sCap xb n xc
  simp only [bind, Option.bind_eq_some_iff] at ha
  obtain ⟨new, hnew, ha⟩ := ha
  obtain ⟨z, hz1, hz2, hz3⟩ := zeroC_value hz
  obtain ⟨new', n1, n2, n3, n4, n5⟩ := readSlice_ok (P := P) (w := w) hnew hx (fun k hk => hm2 k (by simpa [blk] using hk))
  obtain ⟨ρ', v', w', base', sCap', ws, rfl, hrun, heff, hv, hws, hfl, _, hbound⟩ := append_core (P := P) (w := w) hd hsz h0 hz2 hzl ha hs n1 n2 hm
  have hcap := (slice_cap hs).2
  have hr := run_append_slices (w := w) (ty := ty) hu hxt hsz hb hb0 (hz1 w) n4 n3 (n5 _ rfl) (fun hno => by
   have hn : n ≠ 0 := by
    rcases hbound with h | ⟨_, _, h⟩
    ·exact absurd h hno
    ·exact h
   obtain ⟨old, hold⟩ := append_room ha hn (by omega)
   obtain ⟨old', _, _, o3, _⟩ := readSlice_ok (P := P) (w := w.drew) hold hs (Sees.drew hm)
   exact ⟨_, o3⟩) hbound
  exact ⟨⟨ws, Ok.of_run (hr.trans hrun) heff hv, hws⟩, hfl, (appendCells_own ha).1, (appendCells_own ha).2⟩
 ·cases ha
theorem appendZ_ok {st st' : St} (hd : st'.h.length ≠ st.h.length → Dom ρ st.h) {sT xT elem ty : TypeId} {q : IntKind} {size b : Nat} {zero : List Value} {s x s' x' v : Value} (hu : P.underlying sT = some (.slice elem)) (hxt : P.underlying xT = some (.int q)) (hsz : sizeC P elem = some size) (hb : bytesC P elem = some b)
  (hz : zeroC P elem = some zero) (h0 : 0 < size) (hb0 : 0 < b) (hzl : zero.length = size) (ha : appendZV elem size b zero s x st = some (v, st')) (hs : VRel ρ s s') (hx : VRel ρ x x') (hm : Sees ρ w st.h (blk s)) :
  StepOk ρ w st st' v (blk s) ((do pure (Next.value (← Builtin.append_ #[sT, xT] ty #[s', x'])) : Sem Next).run P w) := by
 unfold appendZV at ha
 split at ha
 ·rename_i base sLen sCap n
  split at ha
  ·rename_i hn
   obtain ⟨hn0, hnb⟩ := hn
   obtain ⟨z, hz1, hz2, hz3⟩ := zeroC_value hz
   have hnn : n = (n.toNat : Int) := by omega
   have hx1 := hx.int
   subst hx1
   have hnb' : n.toNat * b ≤ 2 ^ 47 := by
    rw [hnn] at hnb
    have : ((n.toNat * b : Nat) : Int) ≤ (2 : Int) ^ 47 := by simpa using hnb
    omega
   have hrel : LRel ρ (rep n.toNat zero) (Builtin.zeroCells z.cells n.toNat).toList := by
    rw [zeroCells_ok n.toNat hz2]
    exact plain_all (rep_plain hz3)
   have hlen : (rep n.toNat zero).length = n.toNat * size := by rw [rep_length, hzl]
   obtain ⟨ρ', v', w', base', sCap', ws, rfl, hrun, heff, hv, hws, hfl, _, hbound⟩ := append_core (P := P) (w := w) hd hsz h0 hz2 hzl ha hs hrel hlen hm
   have hcap := (slice_cap hs).2
   have hr := run_append_zeros (w := w) (ty := ty) (n := n.toNat) hu hxt hsz hb hb0 (hz1 w) (by rw [← hzl, hz2]; simp) hnb' (fun hno => by
    have hn : n.toNat ≠ 0 := by
     rcases hbound with h | ⟨_, _, h⟩
     ·exact absurd h hno
     ·exact h
    obtain ⟨old, hold⟩ := append_room ha hn (by omega)
    obtain ⟨old', _, _, o3, _⟩ := readSlice_ok (P := P) (w := w.drew) hold hs (Sees.drew hm)
    exact ⟨_, o3⟩) hbound
   rw [← hnn] at hr
   exact ⟨⟨ws, Ok.of_run (hr.trans (by simpa using hrun)) heff hv, hws⟩, hfl, (appendCells_own ha).1, (appendCells_own ha).2⟩
  ·cases ha
 ·cases ha
end Go.Ai
namespace Go.Ai
open Go.RowKit
variable {P : Program} {ρ : RM} {w : World}
theorem VRel.shorter {a : Option Addr} {n c m : Nat} {x' : Value} (h : VRel ρ (.slice a n c) x') (hm : m ≤ n) : ∃ a' c', x' = .slice a' n c' ∧ VRel ρ (.slice a m c) (.slice a' m c') := by
 cases h with
 | flat h1 h2 =>
  cases a with
  | none =>
   have : n = 0 ∧ c = 0 := by cases n <;> cases c <;> simp [Ai.flat] at h1 <;> exact ⟨rfl, rfl⟩
   obtain ⟨rfl, rfl⟩ := this
   obtain rfl : m = 0 := by omega
   exact ⟨_, _, rfl, .flat h1 h2⟩
  | some a =>
   obtain ⟨x, y, sp⟩ := a
   cases sp with
   | none => simp [Ai.flat] at h1
   | some sp => simp [isE] at h2
 | empty a =>
  obtain rfl : m = 0 := by omega
  exact ⟨_, _, rfl, .empty a⟩
 | slice h1 h2 h3 h4 h5 => exact ⟨_, _, rfl, .slice h1 h2 h3 (by omega) h5⟩
theorem blk_len {a : Option Addr} {n c m d : Nat} : blk (.slice a n c) = blk (.slice a m d) := by
 cases a with
 | none => rfl
 | some a => obtain ⟨x, y, sp⟩ := a; cases sp <;> rfl
theorem firstCells_len {size k n c n' : Nat} {a : Option Addr} : Builtin.firstCells size k (.slice a n c) = Builtin.firstCells size k (.slice a n' c) := by
 cases a <;> rfl
theorem copy_ok {st st' : St} {dT sT elem ty : TypeId} {size : Nat} {d s d' s' v : Value} (hu : P.underlying dT = some (.slice elem)) (hsz : sizeC P elem = some size) (h0 : 0 < size)
  (ha : step (.copy size (.const d) (.const s)) (ev []) st = some (.val v, st')) (hd : VRel ρ d d') (hs : VRel ρ s s') (hm : Sees ρ w st.h (blk d)) (hm2 : Sees ρ w st.h (blk s)) :
  StepOk ρ w st st' v (blk d) ((do pure (Next.value (← Builtin.copy_ #[dT, sT] ty #[d', s'])) : Sem Next).run P w) := by
 simp only [step, ev] at ha
 split at ha
 ·rename_i da dn dc sa sn sc
  simp only [bind, Option.bind_eq_some_iff] at ha
  obtain ⟨l, hl, ha⟩ := ha
  obtain ⟨sa', sc', rfl, hs2⟩ := hs.shorter (Nat.min_le_left sn dn)
  obtain ⟨da', dc', hd', _⟩ := hd.shorter (Nat.le_refl dn)
  subst hd'
  obtain ⟨l', l1, l2, l3, l4, _⟩ := readSlice_ok (P := P) (w := w) hl hs2 (fun k hk => hm2 k (by rw [blk_len (m := sn) (d := sc)] at hk; exact hk))
  rw [firstCells_len (n' := sn)] at l3
  have hlen : Builtin.lenOf (.slice sa' sn sc') = (pure sn : Sem Nat) := rfl
  have hmin : Nat.min sn dn = min sn dn := rfl
  split at ha
  ·rename_i hl0
   subst hl0
   have hv := Option.some.inj ha
   simp only [Prod.mk.injEq, Res.val.injEq] at hv
   obtain ⟨rfl, rfl⟩ := hv
   have hl0' : l' = [] := by have := l1.1; simpa using this.symm
   subst hl0'
   refine .still ⟨ρ, .int .i64 (min sn dn : Nat), w, .inl ?_, Eff.refl ρ w st.h, flat_int _ _⟩
   cases da' <;> simp [Builtin.copy_, Sem.run_bind, run_underlying hu, hlen, run_size hsz, hmin, l3, storeCells, goInt]
  ·rename_i hl0
   split at ha
   ·rename_i b o _
    simp only [bind, Option.bind_eq_some_iff, Option.some.injEq, Prod.mk.injEq, Res.val.injEq] at ha
    obtain ⟨h1, hw, rfl, rfl⟩ := ha
    obtain ⟨L, o', c', hL, e1, g1, g2, g3, g4⟩ := hd.inv_slice
    simp only [Value.slice.injEq] at e1
    obtain ⟨rfl, _, rfl⟩ := e1
    obtain rfl : o' = L.sh + o := by
     rcases g2 with g2 | g2
     ·exact g2
     ·exfalso
      have : dn = 0 := by omega
      subst this
      simp at l2
      exact hl0 l2
    obtain ⟨w', hr, he⟩ := wrN_ok (P := P) (w := w) hw hL (fun x hx => by
     obtain ⟨L', hL', hc⟩ := hm b (by simp [blk]) x hx
     obtain rfl : L = L' := Option.some.inj (hL.symm.trans hL')
     exact hc) l1
    refine .wrote (wrN_own hw).2 (by simp [blk]) (wrN_own hw).1 ⟨ρ, _, w', .inl ?_, he, flat_int _ _⟩
    simp [Builtin.copy_, Sem.run_bind, run_underlying hu, hlen, run_size hsz, hmin, l3, hr, goInt]
   ·cases ha
 ·cases ha
theorem maxmin_ok {st : St} {isMax : Bool} {aT : Array TypeId} {ty : TypeId} {xs ys : List Value} {v : Value} (h : maxminV isMax xs = some v) (hx : LRel ρ xs ys) :
  ∃ v', (if isMax then Builtin.max_ aT ty ys.toArray else Builtin.min_ aT ty ys.toArray).run P w = .ok v' w ∧ VRel ρ v v' := by
 have key : ∀ (xs ys : List Value) (x y v : Value), maxmin2 isMax x xs = some v → VRel ρ x y → LRel ρ xs ys →
   ∃ v', (ys.foldlM (if isMax then Builtin.max2 else Builtin.min2) y : Sem Value).run P w = .ok v' w ∧ VRel ρ v v' := by
  intro xs
  induction xs with
  | nil =>
   intro ys x y v h hxy hl
   have : ys = [] := by have := hl.1; simpa using this.symm
   subst this
   simp only [maxmin2, Option.some.injEq] at h
   subst h
   exact ⟨y, rfl, hxy⟩
  | cons a xs ih =>
   intro ys x y v h hxy hl
   obtain ⟨b, ys', rfl, hab, hl'⟩ := hl.uncons
   cases a with
   | int kb nb =>
    cases x with
    | int k na =>
     simp only [maxmin2] at h
     have e1 := hab.int
     have e2 := hxy.int
     subst e1 e2
     obtain ⟨v', h1, h2⟩ := ih ys' _ _ v h (flat_int k _) hl'
     refine ⟨v', ?_, h2⟩
     cases isMax <;> simp [List.foldlM, Builtin.max2, Builtin.min2, Sem.run_bind] at h1 ⊢ <;> exact h1
    | _ => simp [maxmin2] at h
   | _ => simp [maxmin2] at h
 cases xs with
 | nil => simp [maxminV] at h
 | cons x xs =>
  obtain ⟨y, ys', rfl, hxy, hl⟩ := hx.uncons
  obtain ⟨v', h1, h2⟩ := key xs ys' x y v h hxy hl
  refine ⟨v', ?_, h2⟩
  cases isMax <;> simpa [Builtin.max_, Builtin.min_] using h1
theorem Eff.madeO {h : List O} (hd : Dom ρ h) {o : O} {ob : Obj} (hc : ∀ w' : World, w'.heap = w.heap.push ob → CRel (upd ρ h.length ⟨w.heap.size, 0, 0, 0⟩) w' ⟨w.heap.size, 0, 0, 0⟩ o) :
  Eff ρ (upd ρ h.length ⟨w.heap.size, 0, 0, 0⟩) w { w with heap := w.heap.push ob } h (h ++ [o]) [] := by
 refine ⟨upd_le _ hd.fresh, ?_, rfl, rfl, rfl, by simp, fun k hk _ => heap_push_lt w _ k hk, by simp, fun id hid _ => by rw [List.getElem?_append_left hid], fun _ h => by simp at h, ?_⟩
 ·intro id l hl
  unfold upd at hl
  split at hl
  ·rename_i e; exact .inr (by simp; omega)
  ·exact .inl hl
 ·intro id h1 h2
  simp at h2
  obtain rfl : id = h.length := by omega
  exact ⟨_, o, upd_at _ _ _, by simp, hc _ rfl, .inl (Nat.le_refl _)⟩
theorem mkMap_ok {st : St} (hd : Dom ρ st.h) {t : TypeId} :
  StepOk ρ w st { st with h := st.h ++ [.map [] 0] } (.map (some st.h.length)) [] ((do pure (Next.value (← Instr.makeMap t none)) : Sem Next).run P w) := by
 refine .made rfl (Ok.of_run (v' := .map (some w.heap.size)) (w' := { w with heap := w.heap.push (.map #[] 0) }) ?_ (Eff.madeO hd fun w' hw => ⟨#[], by rw [hw]; exact heap_push_at w _, rfl, fun i a b h => by simp at h, fun e h => by simp at h⟩) (VRel.map (l := ⟨w.heap.size, 0, 0, 0⟩) (upd_at _ _ _)))
 simp [Instr.makeMap, Sem.run_bind]
theorem zeroVC_ok {t : TypeId} {z : Value} (hz : zeroVC P t = some z) : (∀ w, (zeroValue t).run P w = .ok z w) ∧ VRel ρ z z := by
 unfold zeroVC at hz
 cases hi : P.info? t with
 | none => simp [hi] at hz
 | some i =>
  cases hzz : i.zero with
  | none => simp [hi, hzz] at hz
  | some z' =>
   simp only [hi, hzz, Option.map_some] at hz
   have hr : ∀ w, (zeroValue t).run P w = .ok z' w := fun w => by simp [zeroValue, typeInfo, hi, hzz, Sem.run_bind]
   cases z' with
   | tuple vs => simp at hz
   | agg cs =>
    simp only [Bool.and_true, Option.ite_none_right_eq_some, Option.some.injEq] at hz
    obtain ⟨h1, rfl⟩ := hz
    exact ⟨hr, VRel.agg' (plain_all (by simpa [Value.cells] using h1))⟩
   | _ =>
    simp only [Bool.and_true, Option.ite_none_right_eq_some, Option.some.injEq] at hz
    obtain ⟨h1, rfl⟩ := hz
    exact ⟨hr, plain_rel (by simpa [Value.cells] using h1)⟩
theorem assert_ok {st st' : St} {d : TypeDesc} {t xT : TypeId} {z x x' v : Value} {e : Operand → Value} {X : Operand} (hu : P.underlying t = some d) (hd : ∀ m, d ≠ .interface m) (hz : zeroVC P t = some z) (hx : VRel ρ x x') (he : e X = x)
  (ha : step (.assert t z X) e st = some (.val v, st')) : st' = st ∧ ∃ v', (Instr.typeAssert x' xT t true).run P w = .ok v' w ∧ VRel ρ v v' := by
 obtain ⟨hz1, hz2⟩ := zeroVC_ok (ρ := ρ) hz
 have htup : ∀ a a' b, VRel ρ a a' → VRel ρ (.tuple #[a, .bool b]) (.tuple #[a', .bool b]) := fun a a' b h => VRel.tuple' (LRel.cons h (LRel.cons (flat_bool b) (LRel.nil ρ)))
 simp only [step, he] at ha
 split at ha
 ·rename_i u y
  simp only [Option.some.injEq, Prod.mk.injEq, Res.val.injEq] at ha
  obtain ⟨rfl, rfl⟩ := ha
  obtain ⟨y', rfl, hy⟩ := hx.inv_iface
  refine ⟨rfl, ?_⟩
  by_cases hut : u = t
  ·refine ⟨.tuple #[y', .bool true], ?_, by rw [if_pos hut]; exact htup _ _ _ hy⟩
   cases d <;> first
    | (exact absurd rfl (hd _))
    | (simp [Instr.typeAssert, Sem.run_bind, run_underlying hu, hut])
  ·refine ⟨.tuple #[z, .bool false], ?_, by rw [if_neg hut]; exact htup _ _ _ hz2⟩
   cases d <;> first
    | (exact absurd rfl (hd _))
    | (simp [Instr.typeAssert, Sem.run_bind, run_underlying hu, hut, hz1])
 ·simp only [Option.some.injEq, Prod.mk.injEq, Res.val.injEq] at ha
  obtain ⟨rfl, rfl⟩ := ha
  obtain rfl := hx.nilIface
  refine ⟨rfl, .tuple #[z, .bool false], ?_, htup _ _ _ hz2⟩
  cases d <;> first
   | (exact absurd rfl (hd _))
   | (simp [Instr.typeAssert, Sem.run_bind, run_underlying hu, hz1])
 ·cases ha
end Go.Ai
namespace Go.Ai
open Go.RowKit
variable {P : Program} {ρ : RM} {w : World}
theorem run_checkKey_shape (em : Bool) (d : Nat) : ∀ (t : TypeId) (D : TypeDesc) (sh : List (Option IntKind)) (n : Nat) (x : Value), P.underlying t = some D → shapeC P d t = some sh → d ≤ n → Fit D sh x →
  (Instr.checkKey em n t x).run P w = .ok () w := by
 induction d with
 | zero => intro t D sh n x _ h; simp [shapeC] at h
 | succ d ih =>
  intro t D sh n x hD h hn hx
  obtain ⟨n, rfl⟩ : ∃ k, n = k + 1 := ⟨n - 1, by omega⟩
  cases D <;> simp only [shapeC, hD] at h
  all_goals first | (cases h; done) | skip
  case bool =>
   obtain rfl := Option.some.inj h
   simp only [Fit, isAggD] at hx
   cases x <;> simp [fitsAll, fits] at hx
   simp [Instr.checkKey, run_underlying hD]
  case int k =>
   obtain rfl := Option.some.inj h
   simp only [Fit, isAggD] at hx
   cases x <;> simp [fitsAll, fits] at hx
   simp [Instr.checkKey, run_underlying hD]
  case array m e =>
   split at h
   ·rename_i me hme
    split at h
    ·rename_i hsz
     obtain rfl := Option.some.inj h
     simp only [Fit, isAggD, if_true] at hx
     obtain ⟨xs, rfl, hx⟩ := hx
     have hsz' : sizeC P e = some me.length := by simpa using hsz
     obtain ⟨De, hDe⟩ : ∃ De, P.underlying e = some De := by
      cases d with
      | zero => simp [shapeC] at hme
      | succ d => cases hu : P.underlying e with
       | none => simp [shapeC, hu] at hme
       | some De => exact ⟨De, rfl⟩
     rw [Instr.checkKey]
     simp only [Sem.run_bind, run_underlying hD, Result.andThen_ok]
     simp only [Std.Legacy.Range.forIn_eq_forIn_range', Std.Legacy.Range.size, Nat.sub_zero, Nat.add_one_sub_one, Nat.div_one]
     suffices H : ∀ (k s : Nat), fitsAll ((List.replicate k me).flatten) (xs.toList.drop (s * me.length)) = true →
       (forIn (List.range' s k) PUnit.unit (fun i r => do
        Instr.checkKey em n e (← part e xs (i * (← sizeOf e)))
        pure (ForInStep.yield PUnit.unit)) : Sem PUnit).run P w = .ok PUnit.unit w by
      have := H m 0 (by simpa using hx)
      simp [Sem.run_bind] at this ⊢
      simp [this]
     intro k
     induction k with
     | zero => intro s hx; simp
     | succ k ihk =>
      intro s hx
      simp only [List.replicate_succ, List.flatten_cons] at hx
      obtain ⟨hx1, hx2⟩ := fitsAll_append hx
      rw [List.drop_drop] at hx2
      have es : s * me.length + me.length = (s + 1) * me.length := by rw [Nat.succ_mul]
      rw [es] at hx2
      obtain ⟨a, ha1, ha2, ha3⟩ := run_part_fit (w := w) hsz' hDe (shapeC_plain hme hDe) hx1
      have hr := ih e De me n a hDe hme (by omega) ha2
      have hk := ihk (s + 1) hx2
      rw [List.range'_succ]
      simp only [List.forIn_cons, Sem.run_bind, run_size hsz', Result.andThen_ok, ha1, hr, Sem.run_pure]
      simpa [Sem.run_bind] using hk
    ·cases h
   ·cases h
  case struct fs =>
   split at h
   ·cases h
   ·rename_i hst
    simp only [Fit, isAggD, if_true] at hx
    obtain ⟨xs, rfl, hx⟩ := hx
    rw [Instr.checkKey]
    simp only [Sem.run_bind, run_underlying hD, Result.andThen_ok]
    rw [← Array.forIn_toList]
    suffices H : ∀ (l : List Field) (off : Nat) (sh : List (Option IntKind)), shapeFs P (shapeC P d) off l = some sh → fitsAll sh (xs.toList.drop off) = true →
      (forIn l PUnit.unit (fun f r => do
       if f.name ≠ "_" then Instr.checkKey em n f.type (← part f.type xs f.offset)
       pure (ForInStep.yield PUnit.unit)) : Sem PUnit).run P w = .ok PUnit.unit w by
     have := H fs.toList 0 sh h (by simpa using hx)
     simp [Sem.run_bind] at this ⊢
     simp [this]
    intro l
    induction l with
    | nil => intro off sh h hx; simp
    | cons f l ihl =>
     intro off sh h hx
     simp only [shapeFs] at h
     split at h
     ·rename_i mf hmf
      split at h
      ·rename_i hc
       simp only [Bool.and_eq_true, bne_iff_ne, ne_eq, beq_iff_eq] at hc
       obtain ⟨⟨hn1, hoff⟩, hsz'⟩ := hc
       cases hrest : shapeFs P (shapeC P d) (off + mf.length) l with
       | none => simp [hrest] at h
       | some rest =>
        simp only [hrest, Option.map_some, Option.some.injEq] at h
        subst h
        obtain ⟨hx1, hx2⟩ := fitsAll_append hx
        rw [List.drop_drop] at hx2
        obtain ⟨De, hDe⟩ : ∃ De, P.underlying f.type = some De := by
         cases d with
         | zero => simp [shapeC] at hmf
         | succ d => cases hu : P.underlying f.type with
          | none => simp [shapeC, hu] at hmf
          | some De => exact ⟨De, rfl⟩
        obtain ⟨a, ha1, ha2, ha3⟩ := run_part_fit (w := w) hsz' hDe (shapeC_plain hmf hDe) hx1
        have hr := ih f.type De mf n a hDe hmf (by omega) ha2
        have hk := ihl (off + mf.length) rest hrest hx2
        simp only [List.forIn_cons, Sem.run_bind, hn1, ne_eq, not_false_eq_true, if_true, hoff, Result.andThen_ok, ha1, hr, Sem.run_pure]
        simpa [Sem.run_bind] using hk
      ·cases h
     ·cases h
theorem eqCell_fits {s : Option IntKind} {a b : Value} (ha : fits s a = true) (hb : fits s b = true) (h : eqCell a b = true) : a = b := by
 cases s <;> cases a <;> simp [fits] at ha <;> cases b <;> simp [fits] at hb <;> simp_all [eqCell]
theorem eqCells_fits {sh : List (Option IntKind)} : ∀ {a b : List Value}, fitsAll sh a = true → fitsAll sh b = true → eqCells a b = true → a = b := by
 induction sh with
 | nil => intro a b ha hb _; cases a <;> cases b <;> simp_all [fitsAll]
 | cons s sh ih =>
  intro a b ha hb h
  cases a <;> cases b <;> simp [fitsAll] at ha hb
  simp [eqCells] at h
  rw [eqCell_fits ha.1 hb.1 h.1, ih ha.2 hb.2 h.2]
theorem fits_flat {s : Option IntKind} {a : Value} (ha : fits s a = true) : flat a = true ∧ isE a = false := by
 cases s <;> cases a <;> simp [fits] at ha <;> exact ⟨rfl, rfl⟩
theorem fitsAll_same {sh : List (Option IntKind)} : ∀ {xs ys : List Value}, fitsAll sh xs = true → LRel ρ xs ys → ys = xs := by
 induction sh with
 | nil =>
  intro xs ys h hl
  cases xs with
  | nil => have := hl.1; simpa using this.symm
  | cons a xs => simp [fitsAll] at h
 | cons s sh ih =>
  intro xs ys h hl
  cases xs with
  | nil => simp [fitsAll] at h
  | cons a xs =>
   obtain ⟨b, ys', rfl, h1, h2⟩ := hl.uncons
   simp [fitsAll] at h
   obtain ⟨f1, f2⟩ := fits_flat h.1
   rw [h1.same f1 f2, ih h.2 h2]
theorem keyCells_iff {sh : List (Option IntKind)} {agg : Bool} {v : Value} {cs : List Value} (h : keyCells sh agg v = some cs) :
  cs = v.cells.toList ∧ fitsAll sh cs = true ∧ (agg = true → ∃ xs, v = .agg xs) ∧ (agg = false → cs = [v]) := by
 cases agg with
 | true =>
  cases v <;> simp [keyCells] at h
  obtain ⟨h1, rfl⟩ := h
  exact ⟨rfl, h1, fun _ => ⟨_, rfl⟩, fun h => by simp at h⟩
 | false =>
  cases v <;> simp [keyCells] at h
  all_goals
   obtain ⟨h1, rfl⟩ := h
   exact ⟨rfl, h1, fun h => by simp at h, fun _ => rfl⟩
theorem key_same {sh : List (Option IntKind)} {agg : Bool} {v v' : Value} {cs : List Value} (h : keyCells sh agg v = some cs) (hv : VRel ρ v v') : v' = v := by
 obtain ⟨h1, h2, h3, h4⟩ := keyCells_iff h
 cases agg with
 | true =>
  obtain ⟨xs, rfl⟩ := h3 rfl
  obtain ⟨ys, rfl, hl⟩ := hv.inv_agg
  have e : xs.toList = cs := by rw [h1]; rfl
  have := fitsAll_same (e ▸ h2) hl
  rw [Array.toList_inj.1 this]
 | false =>
  have := h4 rfl
  subst this
  cases sh with
  | nil => simp [fitsAll] at h2
  | cons s sh =>
   simp [fitsAll] at h2
   obtain ⟨f1, f2⟩ := fits_flat h2.1
   exact hv.same f1 f2
theorem key_inj {sh : List (Option IntKind)} {agg : Bool} {a b : Value} {ca cb : List Value} (ha : keyCells sh agg a = some ca) (hb : keyCells sh agg b = some cb) (h : eqCells ca cb = true) : a = b := by
 obtain ⟨h1, h2, h3, h4⟩ := keyCells_iff ha
 obtain ⟨k1, k2, k3, k4⟩ := keyCells_iff hb
 have e := eqCells_fits h2 k2 h
 cases agg with
 | true =>
  obtain ⟨xs, rfl⟩ := h3 rfl
  obtain ⟨ys, rfl⟩ := k3 rfl
  have : xs.toList = ys.toList := by rw [h1, k1] at e; exact e
  rw [Array.toList_inj.1 this]
 | false =>
  have q1 := h4 rfl
  have q2 := k4 rfl
  rw [q1, q2] at e
  simpa using e
theorem keyC_fit {t : TypeId} {sh : List (Option IntKind)} {agg : Bool} (hk : keyC P t = some (sh, agg)) : ∃ D, P.underlying t = some D ∧ shapeC P 8 t = some sh ∧ isAggD D = agg ∧
  ∀ v cs, keyCells sh agg v = some cs → Fit D sh v := by
 unfold keyC at hk
 split at hk
 ·rename_i s a hs ha
  simp only [Option.some.injEq, Prod.mk.injEq] at hk
  obtain ⟨rfl, rfl⟩ := hk
  unfold isAggT aggN at ha
  cases hu : P.underlying t with
  | none => simp [hu] at ha
  | some D =>
   have hagg : isAggD D = a := by
    cases D <;> simp [hu] at ha <;> first
     | (rw [← ha]; rfl)
     | (obtain ⟨x, ⟨i, hi, rfl⟩, rfl⟩ := ha; rfl)
     | (subst ha; rfl)
     | skip
    all_goals (cases hi : P.info? t with
     | none => simp [hi] at ha
     | some i => simp [hi] at ha; rw [← ha]; rfl)
   refine ⟨D, rfl, hs, hagg, fun v cs h => ?_⟩
   obtain ⟨h1, h2, h3, h4⟩ := keyCells_iff h
   unfold Fit
   cases a with
   | true =>
    obtain ⟨xs, rfl⟩ := h3 rfl
    rw [if_pos hagg]
    exact ⟨xs, rfl, by rw [h1] at h2; exact h2⟩
   | false =>
    have := h4 rfl
    subst this
    rw [if_neg (by rw [hagg]; simp)]
    exact h2
 ·cases hk
theorem run_findKey_shape {t : TypeId} {sh : List (Option IntKind)} {agg : Bool} (hk : keyC P t = some (sh, agg)) {k : Value} {cs : List Value} (hkey : keyCells sh agg k = some cs) {es : List MapEntry} (hes : keysOk sh agg es = true) :
  (Instr.findKey t k es).run P w = .ok (findE cs es 0) w := by
 obtain ⟨D, hD, hsh, hagg, hfit⟩ := keyC_fit hk
 have hcs : cs = cellsV k := (keyCells_iff hkey).1
 have key : ∀ (e : MapEntry), e ∈ es → ∃ ce, keyCells sh agg e.key = some ce ∧ ce = cellsV e.key := fun e he => by
  have := List.all_eq_true.1 hes e he
  cases hc : keyCells sh agg e.key with
  | none => simp [hc] at this
  | some ce => exact ⟨ce, rfl, (keyCells_iff hc).1⟩
 have heq : ∀ e ∈ es, (Op.equal t k e.key).run P w = .ok (eqCells cs (cellsV e.key)) w := fun e he => by
  obtain ⟨ce, h1, h2⟩ := key e he
  rw [hcs]
  exact run_equal_shape 8 t D sh 10000 k e.key hD hsh (by omega) (hfit _ _ hkey) (hfit _ _ h1)
 have hask : ∀ (l : List MapEntry) (i : Nat), (∀ e ∈ l, e ∈ es) → (Instr.findAsking t k l i).run P w = .ok (findE cs l i) w := by
  intro l
  induction l with
  | nil => intro i _; rfl
  | cons e l ih =>
   intro i h
   simp only [Instr.findAsking, Sem.run_bind, heq e (h e (by simp)), Result.andThen_ok, findE]
   show _ = Result.ok (if eqCells cs (cellsV e.key) = true then _ else _) w
   cases hc : eqCells cs (cellsV e.key) with
   | true => simp
   | false => simpa using ih (i + 1) fun x hx => h x (by simp [hx])
 have hnow : ∀ (l : List MapEntry) (i : Nat), (∀ e ∈ l, e ∈ es) → Instr.findNow D k l i = none ∨ Instr.findNow D k l i = some (findE cs l i) := by
  intro l
  induction l with
  | nil => intro i _; exact .inr rfl
  | cons e l ih =>
   intro i h
   obtain ⟨ce, h1, h2⟩ := key e (h e (by simp))
   unfold Instr.findNow
   cases hs : Instr.sameNow D k e.key with
   | none => exact .inl rfl
   | some b =>
    have hb : eqCells cs (cellsV e.key) = b := by
     have f1 := hfit _ _ hkey
     have f2 := hfit _ _ h1
     rw [hcs]
     have hlen := shapeC_plain hsh hD
     cases D <;> simp only [Instr.sameNow] at hs
     all_goals first
      | (cases hs; done)
      | skip
     all_goals
      simp only [Fit, isAggD] at f1 f2
      simp only [isAggD] at hlen
      obtain ⟨s, rfl⟩ : ∃ s, sh = [s] := by
       cases sh with
       | nil => simp at hlen
       | cons s sh => cases sh with
        | nil => exact ⟨s, rfl⟩
        | cons _ _ => simp at hlen
      cases s <;> cases k <;> simp [fitsAll, fits] at f1 <;> (generalize e.key = kk at *; cases kk <;> simp [fitsAll, fits] at f2 <;> simp [Instr.sameNow] at hs) <;> simp_all [cellsV, Value.cells, eqCells, eqCell]
    show _ ∨ _ = some (if eqCells cs (cellsV e.key) = true then _ else _)
    rw [hb]
    cases b with
    | true => exact .inr (by simp)
    | false => simpa using ih (i + 1) fun x hx => h x (by simp [hx])
 unfold Instr.findKey
 simp only [Sem.run_bind, run_underlying hD, Result.andThen_ok]
 rcases hnow es 0 (fun _ h => h) with h | h
 ·rw [h]; exact hask es 0 fun _ h => h
 ·rw [h]; rfl
theorem run_keyStays {sh : List (Option IntKind)} {agg : Bool} {k : Value} {cs : List Value} (h : keyCells sh agg k = some cs) : (Instr.keyThatStays k k).run P w = .ok k w := by
 obtain ⟨h1, h2, h3, h4⟩ := keyCells_iff h
 have hf : ∀ (n : Nat) (s : Option IntKind) (a : Value), fits s a = true → Instr.sameBits n a a = true := by
  intro n s a ha
  cases s <;> cases a <;> simp [fits] at ha <;> simp [Instr.sameBits]
 have hall : ∀ (n : Nat) (sh : List (Option IntKind)) (l : List Value), fitsAll sh l = true → (l.zip l).all (fun p => Instr.sameBits n p.1 p.2) = true := by
  intro n sh
  induction sh with
  | nil => intro l h; cases l <;> simp_all [fitsAll]
  | cons s sh ih =>
   intro l h
   cases l with
   | nil => simp [fitsAll] at h
   | cons a l =>
    simp [fitsAll] at h
    have := ih l h.2
    simp only [List.zip_cons_cons, List.all_cons, this, hf n s a h.1, Bool.and_self]
 have : Instr.sameBits 10000 k k = true := by
  cases agg with
  | true =>
   obtain ⟨xs, rfl⟩ := h3 rfl
   show (xs.size == xs.size && _) = true
   have := hall 9999 sh xs.toList (by rw [h1] at h2; exact h2)
   simpa using this
  | false =>
   have := h4 rfl
   subst this
   cases sh with
   | nil => simp [fitsAll] at h2
   | cons s sh => simp [fitsAll] at h2; exact hf _ s k h2.1
 simp [Instr.keyThatStays, this]
end Go.Ai
namespace Go.Ai
open Go.RowKit
variable {P : Program} {ρ : RM} {w : World}
def isMapO : Obj → Bool
 | .cells _ _ _ => false
 | _ => true
theorem run_getObj {r : Nat} {ob : Obj} (h : w.heap[r]? = some ob) (hm : isMapO ob = true := by rfl) : (getObj r).run P w = .ok ob w := by cases ob <;> simp [isMapO] at hm <;> simp [getObj, Sem.run, h]
theorem run_setObj {r : Nat} {ob : Obj} (o : Obj) (h : w.heap[r]? = some ob) (hm : isMapO ob = true := by rfl) : (setObj r o).run P w = .ok () { w with heap := w.heap.setIfInBounds r o } := by cases ob <;> simp [isMapO] at hm <;> simp [setObj, Sem.run, h]
theorem wrote_setObj {r : Nat} {ob : Obj} (o : Obj) (h : w.heap[r]? = some ob) : Wrote w { w with heap := w.heap.setIfInBounds r o } r o := by
 have hlt : r < w.heap.size := (Array.getElem?_eq_some_iff.1 h).1
 exact ⟨rfl, rfl, rfl, by simp, by simp [hlt], fun k hk => by simp [Ne.symm hk]⟩
abbrev ERel (ρ : RM) (xs ys : List MapEntry) : Prop := xs.length = ys.length ∧ ∀ (i : Nat) a b, xs[i]? = some a → ys[i]? = some b → EntRel ρ a b
theorem ERel.uncons {x : MapEntry} {xs zs : List MapEntry} (h : ERel ρ (x :: xs) zs) : ∃ y ys, zs = y :: ys ∧ EntRel ρ x y ∧ ERel ρ xs ys := by
 cases zs with
 | nil => simp [ERel] at h
 | cons y ys => exact ⟨y, ys, rfl, h.2 0 x y rfl rfl, by simpa using h.1, fun i a b ha hb => h.2 (i + 1) a b (by simpa using ha) (by simpa using hb)⟩
theorem ERel.nil : ERel ρ [] [] := ⟨rfl, fun i a b h => by simp at h⟩
theorem ERel.cons {x y : MapEntry} {xs ys : List MapEntry} (h : EntRel ρ x y) (t : ERel ρ xs ys) : ERel ρ (x :: xs) (y :: ys) := by
 refine ⟨by simp [t.1], fun i a b ha hb => ?_⟩
 cases i with
 | zero => simp at ha hb; subst ha hb; exact h
 | succ i => exact t.2 i a b (by simpa using ha) (by simpa using hb)
theorem ERel.get {xs ys : List MapEntry} (h : ERel ρ xs ys) {i : Nat} {a : MapEntry} (ha : xs[i]? = some a) : ∃ b, ys[i]? = some b ∧ EntRel ρ a b := by
 have hi : i < xs.length := (List.getElem?_eq_some_iff.1 ha).1
 have hi' : i < ys.length := by have := h.1; omega
 exact ⟨ys[i], by simp [hi'], h.2 i _ _ ha (by simp [hi'])⟩
theorem ERel.keys {sh : List (Option IntKind)} {agg : Bool} {xs : List MapEntry} : ∀ {ys : List MapEntry}, ERel ρ xs ys → keysOk sh agg xs = true → keysOk sh agg ys = true := by
 induction xs with
 | nil =>
  intro ys h _
  have : ys = [] := by have := h.1; simpa using this.symm
  subst this; rfl
 | cons x xs ih =>
  intro ys h hk
  obtain ⟨y, ys', rfl, h1, h2⟩ := h.uncons
  simp only [keysOk, List.all_cons, Bool.and_eq_true] at hk ⊢
  exact ⟨by rw [h1.1]; exact hk.1, ih h2 hk.2⟩
theorem find_rel (cs : List Value) : ∀ {xs ys : List MapEntry} (i : Nat), ERel ρ xs ys →
  (findE cs xs i = none ∧ findE cs ys i = none) ∨ ∃ j e e', findE cs xs i = some (i + j, e.val) ∧ findE cs ys i = some (i + j, e'.val) ∧ xs[j]? = some e ∧ ys[j]? = some e' ∧ EntRel ρ e e' ∧ eqCells cs e.key.cells.toList = true := by
 intro xs
 induction xs with
 | nil =>
  intro ys i h
  have : ys = [] := by have := h.1; simpa using this.symm
  subst this
  exact .inl ⟨rfl, rfl⟩
 | cons x xs ih =>
  intro ys i h
  obtain ⟨y, ys', rfl, h1, h2⟩ := h.uncons
  simp only [findE]
  rw [h1.1]
  cases hc : eqCells cs x.key.cells.toList with
  | true => exact .inr ⟨0, x, y, by simp, by simp, rfl, rfl, h1, hc⟩
  | false =>
   rcases ih (i + 1) h2 with ⟨a, b⟩ | ⟨j, e, e', a, b, c, d, f, g⟩
   ·exact .inl ⟨by simpa using a, by simpa using b⟩
   ·exact .inr ⟨j + 1, e, e', by simp [a]; omega, by simp [b]; omega, by simpa using c, by simpa using d, f, g⟩
theorem CRel.map_inv {L : Loc} {es : List MapEntry} {clock : Nat} (h : CRel ρ w L (.map es clock)) : ∃ ys : List MapEntry, w.heap[L.b]? = some (.map ys.toArray clock) ∧ ERel ρ es ys ∧ ∀ e ∈ es, e.born < clock := by
 obtain ⟨es', h1, h2, h3, h4⟩ := h
 exact ⟨es'.toList, by simpa using h1, ⟨by simpa using h2, fun i a b ha hb => h3 i a b ha (by simpa using hb)⟩, h4⟩
theorem CRel.of_map {L : Loc} {es ys : List MapEntry} {clock : Nat} (h1 : w.heap[L.b]? = some (.map ys.toArray clock)) (h2 : ERel ρ es ys) (h3 : ∀ e ∈ es, e.born < clock) : CRel ρ w L (.map es clock) :=
 ⟨ys.toArray, h1, by simpa using h2.1, fun i a b ha hb => h2.2 i a b ha (by simpa using hb), h3⟩
theorem list_set_same {α : Type} {l : List α} {i : Nat} {a : α} (h : l[i]? = some a) : l.set i a = l := by
 apply List.ext_getElem?
 intro j
 by_cases hj : i = j
 ·subst hj; rw [List.getElem?_set_self (List.getElem?_eq_some_iff.1 h).1, h]
 ·rw [List.getElem?_set_ne hj]
theorem findK_inv {sh : List (Option IntKind)} {agg : Bool} {k : Value} {es : List MapEntry} {f : Option (Nat × Value)} (h : findK sh agg k es = some f) : ∃ cs, keyCells sh agg k = some cs ∧ keysOk sh agg es = true ∧ f = findE cs es 0 := by
 unfold findK at h
 split at h
 ·rename_i cs hcs
  split at h
  ·rename_i hk
   exact ⟨cs, hcs, hk, (Option.some.inj h).symm⟩
  ·cases h
 ·cases h
section
variable {t key elem : TypeId} {sh : List (Option IntKind)} {agg : Bool}
theorem check_key (hk : keyC P key = some (sh, agg)) {k : Value} {cs : List Value} (h : keyCells sh agg k = some cs) (em : Bool) : (Instr.checkKey em 10000 key k).run P w = .ok () w := by
 obtain ⟨D, hD, hsh, _, hfit⟩ := keyC_fit hk
 exact run_checkKey_shape em 8 key D sh 10000 k hD hsh (by omega) (hfit _ _ h)
theorem lookup_ok {b clock : Nat} {es : List MapEntry} {f : Option (Nat × Value)} {zero k k' m' : Value} {ok : Bool} {h : List O} (hu : P.underlying t = some (.map key elem)) (hk : keyC P key = some (sh, agg)) (hz : zeroVC P elem = some zero)
  (hm : VRel ρ (.map (some b)) m') (hb : h[b]? = some (.map es clock)) (hsee : ∀ o, h[b]? = some o → ∃ L, ρ b = some L ∧ CRel ρ w L o) (hkk : VRel ρ k k') (hf : findK sh agg k es = some f) :
  ∃ v', (Instr.lookup t m' k' ok).run P w = .ok v' w ∧ VRel ρ (let p := (match f with | some (_, v) => (v, true) | none => (zero, false)); if ok then .tuple #[p.1, .bool p.2] else p.1) v' := by
 obtain ⟨cs, hcs, hks, rfl⟩ := findK_inv hf
 obtain rfl := key_same hcs hkk
 obtain ⟨L, hL, rfl⟩ := hm.inv_map
 obtain ⟨L', hL', hc⟩ := hsee _ hb
 obtain rfl : L = L' := Option.some.inj (hL.symm.trans hL')
 obtain ⟨ys, h1, h2, h3⟩ := hc.map_inv
 have hfind := run_findKey_shape (w := w) hk hcs (h2.keys hks)
 have htup : ∀ a a' b, VRel ρ a a' → VRel ρ (.tuple #[a, .bool b]) (.tuple #[a', .bool b]) := fun a a' b h => VRel.tuple' (LRel.cons h (LRel.cons (flat_bool b) (LRel.nil ρ)))
 rcases find_rel cs 0 h2 with ⟨a1, a2⟩ | ⟨j, e, e', a1, a2, a3, a4, a5, a6⟩
 ·obtain ⟨z1, z2⟩ := zeroVC_ok (ρ := ρ) hz
  refine ⟨if ok then .tuple #[zero, .bool false] else zero, ?_, ?_⟩
  ·simp [Instr.lookup, Sem.run_bind, run_underlying hu, run_getObj h1, check_key hk hcs, hfind, a2, z1]
  ·rw [a1]
   cases ok
   ·exact z2
   ·exact htup _ _ _ z2
 ·refine ⟨if ok then .tuple #[e'.val, .bool true] else e'.val, ?_, ?_⟩
  ·simp [Instr.lookup, Sem.run_bind, run_underlying hu, run_getObj h1, check_key hk hcs, hfind, a2]
  ·rw [a1]
   cases ok
   ·exact a5.2.1
   ·exact htup _ _ _ a5.2.1
theorem ERel.modify {xs ys : List MapEntry} (h : ERel ρ xs ys) (i : Nat) {f g : MapEntry → MapEntry} (hfg : ∀ a b, xs[i]? = some a → ys[i]? = some b → EntRel ρ a b → EntRel ρ (f a) (g b)) : ERel ρ (xs.modify i f) (ys.modify i g) := by
 refine ⟨by simp [h.1], fun j a b ha hb => ?_⟩
 rw [List.getElem?_modify] at ha hb
 simp only [Option.map_eq_map, Option.map_eq_some_iff] at ha hb
 obtain ⟨a', ha1, ha2⟩ := ha
 obtain ⟨b', hb1, hb2⟩ := hb
 have := h.2 j a' b' ha1 hb1
 by_cases hj : i = j
 ·subst hj
  simp only [if_true] at ha2 hb2
  subst ha2 hb2
  exact hfg _ _ ha1 hb1 this
 ·simp only [hj, if_false] at ha2 hb2
  subst ha2 hb2
  exact this
theorem ERel.snoc {xs ys : List MapEntry} {a b : MapEntry} (h : ERel ρ xs ys) (hab : EntRel ρ a b) : ERel ρ (xs ++ [a]) (ys ++ [b]) := by
 refine ⟨by simp [h.1], fun j x y hx hy => ?_⟩
 by_cases hj : j < xs.length
 ·rw [List.getElem?_append_left hj] at hx
  rw [List.getElem?_append_left (by have := h.1; omega)] at hy
  exact h.2 j x y hx hy
 ·rw [List.getElem?_append_right (by omega)] at hx
  rw [List.getElem?_append_right (by have := h.1; omega), ← h.1] at hy
  have : j - xs.length = 0 := by
   have := (List.getElem?_eq_some_iff.1 hx).1
   simp at this
   omega
  rw [this] at hx hy
  simp at hx hy
  subst hx hy
  exact hab
theorem born_modify {xs : List MapEntry} {clock : Nat} (h : ∀ e ∈ xs, e.born < clock) (i : Nat) {f : MapEntry → MapEntry} (hf : ∀ e, (f e).born = e.born) : ∀ e ∈ xs.modify i f, e.born < clock := by
 intro e he
 obtain ⟨j, hj⟩ := List.getElem?_of_mem he
 rw [List.getElem?_modify] at hj
 simp only [Option.map_eq_map, Option.map_eq_some_iff] at hj
 obtain ⟨a, ha, hb⟩ := hj
 have := h a (List.mem_of_getElem? ha)
 split at hb
 ·subst hb; rw [hf]; exact this
 ·subst hb; exact this
def updSt (st : St) (b clock : Nat) (es : List MapEntry) (k x : Value) : Option (Nat × Value) → St
 | some (i, _) => { st with h := st.h.set b (.map (es.modify i fun en => { en with val := x }) clock), fl := min st.fl b }
 | none => { st with h := st.h.set b (.map (es ++ [{ key := k, val := x, born := clock }]) (clock + 1)), fl := min st.fl b }
theorem mapUpd_ok {st : St} {b clock : Nat} {es : List MapEntry} {f : Option (Nat × Value)} {k k' m' x x' : Value} (hu : P.underlying t = some (.map key elem)) (hk : keyC P key = some (sh, agg))
  (hm : VRel ρ (.map (some b)) m') (hb : st.h[b]? = some (.map es clock)) (hsee : ∀ o, st.h[b]? = some o → ∃ L, ρ b = some L ∧ CRel ρ w L o) (hkk : VRel ρ k k') (hx : VRel ρ x x') (hf : findK sh agg k es = some f) :
  StepOk ρ w st (updSt st b clock es k x f) undef [b]
   ((do Instr.mapUpdate t m' k' x'; pure Next.skip : Sem Next).run P w) := by
 obtain ⟨cs, hcs, hks, rfl⟩ := findK_inv hf
 obtain rfl := key_same hcs hkk
 obtain ⟨L, hL, rfl⟩ := hm.inv_map
 obtain ⟨L', hL', hc⟩ := hsee _ hb
 obtain rfl : L = L' := Option.some.inj (hL.symm.trans hL')
 obtain ⟨ys, h1, h2, h3⟩ := hc.map_inv
 have hlt : b < st.h.length := (List.getElem?_eq_some_iff.1 hb).1
 have hfind := run_findKey_shape (w := w) hk hcs (h2.keys hks)
 rcases find_rel cs 0 h2 with ⟨a1, a2⟩ | ⟨j, e, e', a1, a2, a3, a4, a5, a6⟩
 ·rw [a1]
  refine .wrote (by simp) (by simp) ⟨_, hb, rfl⟩ ⟨ρ, undef, _, .inr ⟨?_, rfl⟩, Eff.wrote hL hlt (wrote_setObj (.map (ys ++ [({ key := k', val := x', born := clock } : MapEntry)]).toArray (clock + 1)) h1) ?_, VRel.undef_ ρ⟩
  ·simp [Instr.mapUpdate, Sem.run_bind, run_underlying hu, run_getObj h1, check_key hk hcs, hfind, a2, run_setObj _ h1]
  ·refine CRel.of_map (wrote_setObj _ h1).at_ (h2.snoc ⟨rfl, hx, rfl⟩) fun e he => ?_
   rcases List.mem_append.1 he with he | he
   ·exact Nat.lt_succ_of_lt (h3 e he)
   ·simp at he; subst he; exact Nat.lt_succ_self _
 ·rw [a1]
  simp only [Nat.zero_add] at a1 a2 ⊢
  have hkey : e.key = k' := by
   obtain ⟨ce, hce⟩ : ∃ ce, keyCells sh agg e.key = some ce := by
    have := List.all_eq_true.1 hks e (List.mem_of_getElem? a3)
    exact Option.isSome_iff_exists.1 this
   have := key_inj hcs hce (by rw [(keyCells_iff hce).1]; exact a6)
   exact this.symm
  have a4' : ys.toArray[j]? = some e' := by simpa using a4
  have hek : e'.key = k' := a5.1.trans hkey
  refine .wrote (by simp) (by simp) ⟨_, hb, rfl⟩ ⟨ρ, undef, _, .inr ⟨?_, rfl⟩, Eff.wrote hL hlt (wrote_setObj (.map (ys.modify j fun e => { e with key := k', val := x' }).toArray clock) h1) ?_, VRel.undef_ ρ⟩
  ·simp [Instr.mapUpdate, Sem.run_bind, run_underlying hu, run_getObj h1, check_key hk hcs, hfind, a2, a4, hek, run_keyStays hcs, run_setObj _ h1]
  ·refine CRel.of_map (wrote_setObj _ h1).at_ (h2.modify j fun a b ha hb hab => ⟨?_, hx, hab.2.2⟩) (born_modify h3 j fun e => rfl)
   rw [a3] at ha
   obtain rfl := Option.some.inj ha
   exact hkey.symm
end
end Go.Ai
namespace Go.Ai
open Go.RowKit
variable {P : Program} {ρ : RM} {w : World}
section
variable {t key elem : TypeId} {sh : List (Option IntKind)} {agg : Bool}
theorem set_self_step {st : St} {b : Nat} {o : O} (hb : st.h[b]? = some o) : ({ st with fl := min st.fl b } : St) = { st with h := st.h.set b o, fl := min st.fl b } := by
 rw [list_set_same hb]
def entSt (st : St) (b clock : Nat) (es : List MapEntry) (k zero : Value) : Option (Nat × Value) → Value × St
 | some (i, v) => (.tuple #[v, .int .i64 (((es[i]?).map (·.born)).getD 0)], { st with fl := min st.fl b })
 | none => (.tuple #[zero, .int .i64 clock], { st with h := st.h.set b (.map (es ++ [{ key := k, val := zero, born := clock }]) (clock + 1)), fl := min st.fl b })
theorem mapEntry_ok {st : St} {b clock : Nat} {es : List MapEntry} {f : Option (Nat × Value)} {k k' m' zero : Value} (hu : P.underlying t = some (.map key elem)) (hk : keyC P key = some (sh, agg)) (hz : zeroVC P elem = some zero)
  (hm : VRel ρ (.map (some b)) m') (hb : st.h[b]? = some (.map es clock)) (hsee : ∀ o, st.h[b]? = some o → ∃ L, ρ b = some L ∧ CRel ρ w L o) (hkk : VRel ρ k k') (hf : findK sh agg k es = some f) :
  StepOk ρ w st (entSt st b clock es k zero f).2 (entSt st b clock es k zero f).1 [b] ((do pure (Next.value (← Instr.mapEntry t m' k')) : Sem Next).run P w) := by
 obtain ⟨cs, hcs, hks, rfl⟩ := findK_inv hf
 obtain rfl := key_same hcs hkk
 obtain ⟨L, hL, rfl⟩ := hm.inv_map
 obtain ⟨L', hL', hc⟩ := hsee _ hb
 obtain rfl : L = L' := Option.some.inj (hL.symm.trans hL')
 obtain ⟨ys, h1, h2, h3⟩ := hc.map_inv
 have hlt : b < st.h.length := (List.getElem?_eq_some_iff.1 hb).1
 have hfind := run_findKey_shape (w := w) hk hcs (h2.keys hks)
 have htup : ∀ a a' (n : Nat), VRel ρ a a' → VRel ρ (.tuple #[a, .int .i64 n]) (.tuple #[a', .int .i64 n]) := fun a a' n h => VRel.tuple' (LRel.cons h (LRel.cons (flat_int _ _) (LRel.nil ρ)))
 rcases find_rel cs 0 h2 with ⟨a1, a2⟩ | ⟨j, e, e', a1, a2, a3, a4, a5, a6⟩
 ·rw [a1]
  obtain ⟨z1, z2⟩ := zeroVC_ok (ρ := ρ) hz
  refine .wrote (by simp) (by simp) ⟨_, hb, rfl⟩ ⟨ρ, .tuple #[zero, .int .i64 clock], _, .inl ?_, Eff.wrote hL hlt (wrote_setObj (.map (ys ++ [({ key := k', val := zero, born := clock } : MapEntry)]).toArray (clock + 1)) h1) ?_, htup _ _ _ z2⟩
  ·simp [Instr.mapEntry, Sem.run_bind, run_underlying hu, run_getObj h1, check_key hk hcs, hfind, a2, z1, run_setObj _ h1, goInt]
  ·refine CRel.of_map (wrote_setObj _ h1).at_ (h2.snoc ⟨rfl, z2, rfl⟩) fun e he => ?_
   rcases List.mem_append.1 he with he | he
   ·exact Nat.lt_succ_of_lt (h3 e he)
   ·simp at he; subst he; exact Nat.lt_succ_self _
 ·rw [a1]
  simp only [Nat.zero_add] at a1 a2 ⊢
  have hkey : e.key = k' := by
   obtain ⟨ce, hce⟩ : ∃ ce, keyCells sh agg e.key = some ce := by
    have := List.all_eq_true.1 hks e (List.mem_of_getElem? a3)
    exact Option.isSome_iff_exists.1 this
   exact (key_inj hcs hce (by rw [(keyCells_iff hce).1]; exact a6)).symm
  have hek : e'.key = k' := a5.1.trans hkey
  simp only [entSt]
  rw [set_self_step hb]
  refine .wrote (by simp) (by simp) ⟨_, hb, rfl⟩ ⟨ρ, .tuple #[e'.val, .int .i64 e.born], _, .inl ?_, Eff.wrote hL hlt (wrote_setObj (.map (ys.modify j fun e => { e with key := k' }).toArray clock) h1) ?_, ?_⟩
  ·simp [Instr.mapEntry, Sem.run_bind, run_underlying hu, run_getObj h1, check_key hk hcs, hfind, a2, a4, hek, run_keyStays hcs, run_setObj _ h1, goInt, a5.2.2]
  ·refine CRel.of_map (wrote_setObj _ h1).at_ ?_ h3
   have := h2.modify j (f := id) (g := fun e => { e with key := k' }) fun a b ha hb hab => ⟨by rw [a3] at ha; obtain rfl := Option.some.inj ha; exact hkey.symm, hab.2⟩
   rwa [List.modify_id] at this
  ·simp only [a3, Option.map_some, Option.getD_some]
   exact htup _ _ _ a5.2.1
theorem findIdx_born {xs : List MapEntry} (born : Int) : ∀ {ys : List MapEntry}, ERel ρ xs ys → ys.findIdx? (fun e => (e.born : Int) == born) = xs.findIdx? (fun e => (e.born : Int) == born) := by
 induction xs with
 | nil =>
  intro ys h
  have : ys = [] := by have := h.1; simpa using this.symm
  subst this; rfl
 | cons x xs ih =>
  intro ys h
  obtain ⟨y, ys', rfl, h1, h2⟩ := h.uncons
  simp only [List.findIdx?_cons, h1.2.2, ih h2]
theorem entryStore_ok {st : St} {b clock i : Nat} {born : Int} {es : List MapEntry} {m' s' x x' : Value} (hm : VRel ρ (.map (some b)) m') (hb : st.h[b]? = some (.map es clock)) (hsee : ∀ o, st.h[b]? = some o → ∃ L, ρ b = some L ∧ CRel ρ w L o)
  (hs : VRel ρ (.int .i64 born) s') (hx : VRel ρ x x') (hi : es.findIdx? (fun en => (en.born : Int) == born) = some i) :
  StepOk ρ w st { st with h := st.h.set b (.map (es.modify i fun en => { en with val := x }) clock), fl := min st.fl b } undef [b] ((do Instr.entryStore t m' s' x'; pure Next.skip : Sem Next).run P w) := by
 obtain ⟨L, hL, rfl⟩ := hm.inv_map
 obtain rfl := hs.int
 obtain ⟨L', hL', hc⟩ := hsee _ hb
 obtain rfl : L = L' := Option.some.inj (hL.symm.trans hL')
 obtain ⟨ys, h1, h2, h3⟩ := hc.map_inv
 have hlt : b < st.h.length := (List.getElem?_eq_some_iff.1 hb).1
 have hi' : ys.findIdx? (fun en => (en.born : Int) == born) = some i := by rw [findIdx_born born h2]; exact hi
 refine .wrote (by simp) (by simp) ⟨_, hb, rfl⟩ ⟨ρ, undef, _, .inr ⟨?_, rfl⟩, Eff.wrote hL hlt (wrote_setObj (.map (ys.modify i fun e => { e with val := x' }).toArray clock) h1) ?_, VRel.undef_ ρ⟩
 ·simp [Instr.entryStore, Sem.run_bind, run_getObj h1, asInt, asIntOf, hi', run_setObj _ h1]
 ·exact CRel.of_map (wrote_setObj _ h1).at_ (h2.modify i fun a b ha hb hab => ⟨hab.1, hx, hab.2.2⟩) (born_modify h3 i fun e => rfl)
theorem ERel.erase {xs : List MapEntry} : ∀ {ys : List MapEntry} (i : Nat), ERel ρ xs ys → ERel ρ (xs.eraseIdx i) (ys.eraseIdx i) := by
 induction xs with
 | nil =>
  intro ys i h
  have : ys = [] := by have := h.1; simpa using this.symm
  subst this; exact h
 | cons x xs ih =>
  intro ys i h
  obtain ⟨y, ys', rfl, h1, h2⟩ := h.uncons
  cases i with
  | zero => exact h2
  | succ i => exact ERel.cons h1 (ih i h2)
def delEs (es : List MapEntry) : Option (Nat × Value) → List MapEntry
 | some (i, _) => es.eraseIdx i
 | none => es
theorem delete_ok {st : St} {b clock : Nat} {es : List MapEntry} {f : Option (Nat × Value)} {k k' m' : Value} {aT ty : TypeId} (hu : P.underlying t = some (.map key elem)) (hk : keyC P key = some (sh, agg))
  (hm : VRel ρ (.map (some b)) m') (hb : st.h[b]? = some (.map es clock)) (hsee : ∀ o, st.h[b]? = some o → ∃ L, ρ b = some L ∧ CRel ρ w L o) (hkk : VRel ρ k k') (hf : findK sh agg k es = some f) :
  StepOk ρ w st { st with h := st.h.set b (.map (delEs es f) clock), fl := min st.fl b } undef [b] ((do pure (Next.value (← Builtin.delete_ #[t, aT] ty #[m', k'])) : Sem Next).run P w) := by
 obtain ⟨cs, hcs, hks, rfl⟩ := findK_inv hf
 obtain rfl := key_same hcs hkk
 obtain ⟨L, hL, rfl⟩ := hm.inv_map
 obtain ⟨L', hL', hc⟩ := hsee _ hb
 obtain rfl : L = L' := Option.some.inj (hL.symm.trans hL')
 obtain ⟨ys, h1, h2, h3⟩ := hc.map_inv
 have hlt : b < st.h.length := (List.getElem?_eq_some_iff.1 hb).1
 have hfind := run_findKey_shape (w := w) hk hcs (h2.keys hks)
 rcases find_rel cs 0 h2 with ⟨a1, a2⟩ | ⟨j, e, e', a1, a2, a3, a4, a5, a6⟩
 ·rw [a1]
  refine .wrote (by simp) (by simp) ⟨_, hb, rfl⟩ ⟨ρ, undef, _, .inl ?_, Eff.wrote hL hlt (wrote_setObj (.map ys.toArray clock) h1) (CRel.of_map (wrote_setObj _ h1).at_ h2 h3), VRel.undef_ ρ⟩
  simp [Builtin.delete_, Sem.run_bind, run_underlying hu, run_getObj h1, check_key hk hcs, hfind, a2, run_setObj _ h1]
  rfl
 ·rw [a1]
  simp only [Nat.zero_add] at a1 a2 ⊢
  refine .wrote (by simp) (by simp) ⟨_, hb, rfl⟩ ⟨ρ, undef, _, .inl ?_, Eff.wrote hL hlt (wrote_setObj (.map (ys.eraseIdx j).toArray clock) h1) (CRel.of_map (wrote_setObj _ h1).at_ (h2.erase j) fun e he => h3 e (List.mem_of_mem_eraseIdx he)), VRel.undef_ ρ⟩
  simp [Builtin.delete_, Sem.run_bind, run_underlying hu, run_getObj h1, check_key hk hcs, hfind, a2, run_setObj _ h1]
  rfl
theorem range_ok {st : St} (hd : Dom ρ st.h) {b clock : Nat} {es : List MapEntry} {x' : Value} (hu : P.underlying t = some (.map key elem)) (hm : VRel ρ (.map (some b)) x') (hb : st.h[b]? = some (.map es clock)) (hsee : ∀ o, st.h[b]? = some o → ∃ L, ρ b = some L ∧ CRel ρ w L o) :
  StepOk ρ w st { st with h := st.h ++ [.iter (some b) clock [] clock] } (.pointer (some ⟨st.h.length, 0, none⟩)) [] ((do pure (Next.value (← Instr.range t x')) : Sem Next).run P w) := by
 obtain ⟨L, hL, rfl⟩ := hm.inv_map
 obtain ⟨L', hL', hc⟩ := hsee _ hb
 obtain rfl : L = L' := Option.some.inj (hL.symm.trans hL')
 obtain ⟨ys, h1, h2, h3⟩ := hc.map_inv
 have hv := VRel.at_new (ρ := ρ) (h := st.h) w.heap.size 0 0
 refine .made rfl (Ok.of_run (v' := .pointer (some ⟨w.heap.size, 0, none⟩)) (w' := { w with heap := w.heap.push (.mapIter (some L.b) clock #[] clock) }) ?_ (Eff.madeO hd fun w' hw => ⟨rfl, some L.b, by rw [hw]; exact heap_push_at w _, L, upd_le _ hd.fresh _ _ hL, rfl⟩) hv)
 simp [Instr.range, Sem.run_bind, run_underlying hu, run_getObj h1]
end
theorem ERel.filter {p : Nat → Bool} {xs : List MapEntry} : ∀ {ys : List MapEntry}, ERel ρ xs ys → ERel ρ (xs.filter fun e => p e.born) (ys.filter fun e => p e.born) := by
 induction xs with
 | nil =>
  intro ys h
  have : ys = [] := by have := h.1; simpa using this.symm
  subst this; exact h
 | cons x xs ih =>
  intro ys h
  obtain ⟨y, ys', rfl, h1, h2⟩ := h.uncons
  simp only [List.filter_cons, h1.2.2]
  split
  ·exact ERel.cons h1 (ih h2)
  ·exact ih h2
theorem iterMap_two {h : List O} {r b since stepped : Nat} {seen : List Nat} (hr : h[r]? = some (.iter (some b) since seen stepped)) : iterMap h [r] = [r, b] := by simp [iterMap, hr]
theorem next_ok {st : St} {ty : TypeId} {it it' : Value} {r b since : Nat} {seen : List Nat} {l : List MapEntry} (hn : nextC it st = some (r, b, since, seen, l)) (hi : VRel ρ it it') (hsee : Sees ρ w st.h (iterMap st.h (blk it))) :
  blk it = [r] ∧ ((l = [] ∧ StepOk ρ w st (nextEnd r st) nextOver [r] ((do pure (Next.value (← Instr.next it' false ty)) : Sem Next).run P w)) ∨
  ∃ en ∈ l, StepOk ρ w st (nextTo r b since seen en st).2 (nextTo r b since seen en st).1 [r] ((do pure (Next.value (← Instr.next it' false ty)) : Sem Next).run P w)) := by
 unfold nextC at hn
 split at hn
 ·rename_i r0
  split at hn
  ·rename_i b0 since0 seen0 stepped0 hr
   split at hn
   ·rename_i es clock hb
    split at hn
    ·rename_i hst
     subst hst
     simp only [nextL, Option.map_eq_some_iff, Option.ite_none_right_eq_some, Option.some.injEq, Prod.mk.injEq] at hn
     obtain ⟨l', ⟨⟨hcl, hplain⟩, rfl⟩, rfl, rfl, rfl, rfl, rfl⟩ := hn
     subst hcl
     obtain ⟨Lr, hLr, rfl⟩ := hi.inv_ptr
     have hbr : blk (.pointer (some ⟨r0, 0, none⟩)) = [r0] := rfl
     rw [hbr, iterMap_two hr] at hsee
     obtain ⟨Lr', hLr', hcr⟩ := hsee r0 (by simp) _ hr
     obtain rfl : Lr = Lr' := Option.some.inj (hLr.symm.trans hLr')
     obtain ⟨Lb, hLb, hcb⟩ := hsee b0 (by simp) _ hb
     obtain ⟨hsh, m', g1, Lb', hLb', rfl⟩ := hcr
     obtain rfl : Lb = Lb' := Option.some.inj (hLb.symm.trans hLb')
     obtain ⟨ys, h1, h2, h3⟩ := hcb.map_inv
     refine ⟨rfl, ?_⟩
     rw [hsh, Nat.add_zero]
     obtain ⟨ls, hdef⟩ : ∃ ls, ls = ys.filter fun e => !seen0.contains e.born := ⟨_, rfl⟩
     have hls : ERel ρ (es.filter fun e => !seen0.contains e.born) ls := hdef ▸ h2.filter (p := fun n => !seen0.contains n)
     have hyb : ∀ e ∈ ys, e.born < clock := fun e he => by
      obtain ⟨i, hi⟩ := List.getElem?_of_mem he
      have hlt : i < es.length := by rw [h2.1]; exact (List.getElem?_eq_some_iff.1 hi).1
      have := h2.2 i es[i] e (by simp [hlt]) hi
      rw [this.2.2]
      exact h3 _ (List.getElem_mem hlt)
     have hcond : (!seen0.toArray.isEmpty && !ys.toArray.isEmpty && ys.toArray.all fun e => decide (e.born ≥ clock)) = false := by
      cases ys with
      | nil => simp
      | cons y ys => have := hyb y (by simp); simp; intro _ h; omega
     have hold : ls.filter (fun e => decide (e.born < clock)) = ls := List.filter_eq_self.2 fun e he => by subst hdef; simpa using hyb e (List.mem_filter.1 he).1
     have hnew : ls.filter (fun e => decide (e.born ≥ clock)) = [] := List.filter_eq_nil_iff.2 fun e he => by subst hdef; simpa using hyb e (List.mem_filter.1 he).1
     let C : Array (Option MapEntry) := (if ls.toArray.isEmpty then #[none] else #[]) ++ ls.toArray.map some
     have hrun : (Instr.next (.pointer (some ⟨Lr.b, 0, none⟩)) false ty).run P w = ((choose (.mapNext C.size)).run P w).andThen fun c w' =>
       (match C[c]? with
        | some (some e) => do
         setObj Lr.b (.mapIter (some Lb.b) clock (seen0.toArray.push e.born) clock)
         pure (.tuple #[.bool true, e.key, e.val])
        | some none => pure (.tuple #[.bool false])
        | none => stuck "Next: no such candidate" : Sem Value).run P w' := by
      have e1 : (ys.toArray.filter fun e => !seen0.toArray.contains e.born) = ls.toArray := by rw [hdef]; simp
      have e2 : (ls.toArray.filter fun e => decide (e.born < clock)) = ls.toArray := by rw [List.filter_toArray, hold]
      have e3 : (ls.toArray.filter fun e => decide (e.born ≥ clock)) = #[] := by rw [List.filter_toArray, hnew]
      simp only [Instr.next, Sem.run_bind, run_getObj g1, run_getObj h1, Result.andThen_ok, hcond, Bool.false_eq_true, if_false, Sem.run_pure, e1, e2, e3, Array.append_empty]
      rfl
     have hsize : 0 < C.size := by
      cases ls with
      | nil => simp [C]
      | cons a l => simp [C]
     obtain ⟨c, w1, hch, hc, hw1⟩ : ∃ c w1, (choose (.mapNext C.size)).run P w = .ok c w1 ∧ c < C.size ∧ (w1 = w ∨ w1 = { w with drawn := w.drawn + 1 }) := by
      by_cases hf : C.size ≤ 1
      ·exact ⟨0, w, by simp [choose, Sem.run, Question.forced, hf], hsize, .inl rfl⟩
      ·exact ⟨w.tape w.drawn (.mapNext C.size) % C.size, { w with drawn := w.drawn + 1 }, by simp [choose, Sem.run, Question.forced, hf, Question.cut], Nat.mod_lt _ hsize, .inr rfl⟩
     have hheap : w1.heap = w.heap ∧ w1.os = w.os ∧ w1.tape = w.tape ∧ w1.output = w.output := by
      rcases hw1 with rfl | rfl <;> exact ⟨rfl, rfl, rfl, rfl⟩
     rw [hch, Result.andThen_ok] at hrun
     cases hlc : ls with
     | nil =>
      left
      have hes : (es.filter fun e => !seen0.contains e.born) = [] := by
       have := hls.1; rw [hlc] at this; simpa using this
      have hlt : r0 < st.h.length := (List.getElem?_eq_some_iff.1 hr).1
      have hwr0 : Wrote w w1 Lr.b (.mapIter (some Lb.b) clock seen0.toArray clock) := ⟨hheap.2.1, hheap.2.2.1, hheap.2.2.2, by rw [hheap.1], by rw [hheap.1]; exact g1, fun k _ => by rw [hheap.1]⟩
      simp only [nextEnd]
      refine ⟨hes, .wrote (by simp) (by simp) ⟨_, hr, rfl⟩ ⟨ρ, nextOver, w1, .inl ?_, Eff.wrote hLr hlt hwr0 (show CRel ρ w1 Lr .dead from trivial), ?_⟩⟩
      ·have hC : C = #[none] := by simp [C, hlc]
       have hc0 : c = 0 := by rw [hC] at hc; simpa using hc
       rw [Sem.run_bind, hrun, hC, hc0]
       rfl
      ·exact VRel.tuple' (LRel.cons (flat_bool _) (LRel.nil ρ))
     | cons y0 l0 =>
      right
      have hC : C = ls.toArray.map some := by simp [C, hlc]
      have hcl : c < ls.length := by rw [hC] at hc; simpa using hc
      have hcl2 : c < (es.filter fun e => !seen0.contains e.born).length := by rw [hls.1]; exact hcl
      have hCc : C[c]? = some (some ls[c]) := by rw [hC]; simp [hcl]
      refine ⟨(es.filter fun e => !seen0.contains e.born)[c], List.getElem_mem hcl2, ?_⟩
      have hent := hls.2 c _ _ (List.getElem?_eq_getElem hcl2) (List.getElem?_eq_getElem hcl)
      have hpk : plain1 (es.filter fun e => !seen0.contains e.born)[c].key = true := List.all_eq_true.1 hplain _ (List.mem_filter.1 (List.getElem_mem hcl2)).1
      generalize (es.filter fun e => !seen0.contains e.born)[c] = en at hent hpk
      rw [hCc] at hrun
      generalize ls[c] = en' at hent hrun
      have hg1 : w1.heap[Lr.b]? = some (.mapIter (some Lb.b) clock seen0.toArray clock) := by rw [hheap.1]; exact g1
      have hlt : r0 < st.h.length := (List.getElem?_eq_some_iff.1 hr).1
      have hwr := wrote_setObj (.mapIter (some Lb.b) clock (seen0.toArray.push en'.born) clock) hg1
      have hwr2 : Wrote w { w1 with heap := w1.heap.setIfInBounds Lr.b (.mapIter (some Lb.b) clock (seen0.toArray.push en'.born) clock) } Lr.b (.mapIter (some Lb.b) clock (seen0.toArray.push en'.born) clock) :=
       ⟨hwr.os.trans hheap.2.1, hwr.tape.trans hheap.2.2.1, hwr.output.trans hheap.2.2.2, by rw [hwr.size, hheap.1], hwr.at_, fun k hk => by rw [hwr.other k hk, hheap.1]⟩
      simp only [nextTo]
      refine .wrote (by simp) (by simp) ⟨_, hr, rfl⟩ ⟨ρ, .tuple #[.bool true, en'.key, en'.val], _, .inl ?_, Eff.wrote hLr hlt hwr2 ⟨hsh, some Lb.b, ?_, Lb, hLb, rfl⟩, ?_⟩
      ·rw [Sem.run_bind, hrun]
       simp [Sem.run_bind, run_setObj _ hg1]
      ·rw [hwr2.at_, hent.2.2]
       simp
      ·exact VRel.tuple' (LRel.cons (flat_bool _) (LRel.cons (by rw [hent.1]; exact plain1_rel hpk) (LRel.cons hent.2.1 (LRel.nil ρ))))
    ·cases hn
   ·cases hn
  ·cases hn
 ·cases hn
theorem find_born {xs : List MapEntry} (s : Nat) : ∀ {ys : List MapEntry}, ERel ρ xs ys → ∀ e, xs.find? (fun e => e.born == s) = some e → ∃ e', ys.find? (fun e => e.born == s) = some e' ∧ EntRel ρ e e' := by
 induction xs with
 | nil => intro ys h e he; simp at he
 | cons x xs ih =>
  intro ys h e he
  obtain ⟨y, ys', rfl, h1, h2⟩ := h.uncons
  rw [List.find?_cons] at he ⊢
  rw [h1.2.2]
  cases hb : (x.born == s) with
  | true => rw [hb] at he; obtain rfl := Option.some.inj he; exact ⟨y, rfl, h1⟩
  | false => rw [hb] at he; exact ih h2 e he
theorem entry_ok {st : St} {r b since stepped clock stamp : Nat} {seen : List Nat} {es : List MapEntry} {it' : Value} {en : MapEntry} (hi : VRel ρ (.pointer (some ⟨r, 0, none⟩)) it') (hr : st.h[r]? = some (.iter (some b) since seen stepped)) (hb : st.h[b]? = some (.map es clock))
  (hst : clock = stepped) (hs : seen.getLast? = some stamp) (hp : es.all (fun e => plain1 e.key) = true) (hf : es.find? (fun e => e.born == stamp) = some en) (hsee : Sees ρ w st.h [r, b]) :
  ∃ v', (Instr.entry it').run P w = .ok v' w ∧ VRel ρ (.tuple #[en.key, en.val]) v' := by
 subst hst
 obtain ⟨Lr, hLr, rfl⟩ := hi.inv_ptr
 obtain ⟨Lr', hLr', hcr⟩ := hsee r (by simp) _ hr
 obtain rfl : Lr = Lr' := Option.some.inj (hLr.symm.trans hLr')
 obtain ⟨Lb, hLb, hcb⟩ := hsee b (by simp) _ hb
 obtain ⟨hsh, m', g1, Lb', hLb', rfl⟩ := hcr
 obtain rfl : Lb = Lb' := Option.some.inj (hLb.symm.trans hLb')
 obtain ⟨ys, h1, h2, h3⟩ := hcb.map_inv
 obtain ⟨e', he1, he2⟩ := find_born stamp h2 en hf
 have hpk := List.all_eq_true.1 hp en (List.mem_of_find?_eq_some hf)
 rw [hsh, Nat.add_zero]
 refine ⟨.tuple #[e'.key, e'.val], ?_, VRel.tuple' (LRel.cons (by rw [he2.1]; exact plain1_rel hpk) (LRel.cons he2.2.1 (LRel.nil ρ)))⟩
 simp [Instr.entry, Sem.run_bind, run_getObj g1, run_getObj h1, hs, he1]
end Go.Ai
namespace Go.Ai
open Go.RowKit
variable {P : Program} {ρ : RM} {w : World}
theorem strIdx_ok {t : TypeId} {x i v x' i' : Value} (hu : P.underlying t = some .string) (hv : strIdxV x i = some v) (hx : VRel ρ x x') (hi : VRel ρ i i') : ∃ v', (Instr.index t x' i').run P w = .ok v' w ∧ VRel ρ v v' := by
 unfold strIdxV at hv
 split at hv
 ·rename_i s k j
  obtain rfl := hx.string
  obtain rfl := hi.int
  split at hv
  ·rename_i hj
   rw [Option.map_eq_some_iff] at hv
   obtain ⟨b, hb, rfl⟩ := hv
   exact ⟨_, by simp [Instr.index, Sem.run_bind, asIntOf, run_underlying hu, hj, hb], .flat rfl rfl⟩
  ·cases hv
 ·cases hv
theorem strSl_ok {t : TypeId} {x v x' : Value} {lo hi lo' hi' : Option Value} (hu : P.underlying t = some .string) (hv : strSlV x lo hi = some v) (hx : VRel ρ x x') (r1 : ORel ρ lo lo') (r2 : ORel ρ hi hi') : ∃ v', (Instr.sliceAt t x' lo' hi' none).run P w = .ok v' w ∧ VRel ρ v v' := by
 unfold strSlV at hv
 split at hv
 ·rename_i s
  obtain rfl := hx.string
  simp only [Option.bind_eq_some_iff, Option.map_eq_some_iff] at hv
  obtain ⟨h, hh, l, hl, rfl⟩ := hv
  obtain ⟨m', hb, _⟩ := bounds_ok (P := P) (w := w) (ρ := ρ) (is := false) (mx := none) (mx' := none) (len := s.size) (cap := s.size) (cap' := s.size) (m := s.size) (Nat.le_refl _) rfl hh hl r1 r2 trivial (Nat.le_refl _)
  exact ⟨_, by simp [Instr.sliceAt, Instr.slice, Sem.run_bind, run_underlying hu, hb], .flat rfl rfl⟩
 ·cases hv
theorem strOf_ok {h : List O} {src dst el : TypeId} {x v x' : Value} (hs : P.underlying src = some (.slice el)) (he : P.underlying el = some (.int .u8)) (hd : P.underlying dst = some .string) (hv : strOfV h x = some v) (hx : VRel ρ x x')
  (hmem : ∀ b ∈ blk x, ∀ o, h[b]? = some o → ∃ L, ρ b = some L ∧ CRel ρ w L o) : ∃ v', (convert src dst x').run P w = .ok v' w ∧ VRel ρ v v' := by
 unfold strOfV at hv
 split at hv
 ·rename_i b i c
  obtain ⟨L, o', c', hL, rfl, h1, h2, h3, h4⟩ := hx.inv_slice
  rw [Option.bind_eq_some_iff] at hv
  obtain ⟨l, hl, hv⟩ := hv
  have ho : o' = L.sh + i := by omega
  subst ho
  obtain ⟨l', hr, hn, hrun⟩ := rdN_ok (P := P) (w := w) (ρ := ρ) (lo := L) hl (fun o hob => by
   obtain ⟨L2, hL2, hc⟩ := hmem b (by simp [blk]) o hob
   rw [hL] at hL2
   obtain rfl := Option.some.inj hL2
   exact hc)
  unfold byteS at hv
  split at hv
  ·rename_i n
   obtain rfl := Option.some.inj hv
   obtain ⟨hlen, hrel⟩ := hr
   obtain ⟨y, rfl⟩ : ∃ y, l' = [y] := by
    match l', hlen with
    | [y], _ => exact ⟨y, rfl⟩
   have hy := (hrel 0 _ y rfl rfl).int
   subst hy
   exact ⟨_, by simp [convert, Conv.bytesToString, Sem.run_bind, run_underlying hs, run_underlying hd, run_underlying he, hrun], .flat rfl rfl⟩
  ·cases hv
 ·cases hv
end Go.Ai
namespace Go.Ai
open Go.RowKit
variable {P : Program} {ρ : RM} {w : World}
theorem eqAgg_ok {sh : List (Option IntKind)} {neg : Bool} {t : TypeId} {D : TypeDesc} {X Y : Operand} {x y x' y' : Value} {a b : List Value} (hD : P.underlying t = some D) (hag : isAggD D = true) (hsh : shapeC P 8 t = some sh) (hg : P.eqGuardType P.depth t = false)
  (ha : keyCells sh true x = some a) (hb : keyCells sh true y = some b) (hx : VRel ρ x x') (hy : VRel ρ y y') :
  (do eqGuard (if neg then .neq else .eql) t X Y x' y'; binOp (if neg then .neq else .eql) t x' y' : Sem Value).run P w = .ok (.bool (neg != eqCells a b)) w := by
 obtain rfl := key_same ha hx
 obtain rfl := key_same hb hy
 obtain ⟨h1, h2, h3, h4⟩ := keyCells_iff ha
 obtain ⟨k1, k2, k3, k4⟩ := keyCells_iff hb
 obtain ⟨xs, rfl⟩ := h3 rfl
 obtain ⟨ys, rfl⟩ := k3 rfl
 have hfx : Fit D sh (.agg xs) := by unfold Fit; rw [if_pos hag]; exact ⟨xs, rfl, by rw [h1] at h2; exact h2⟩
 have hfy : Fit D sh (.agg ys) := by unfold Fit; rw [if_pos hag]; exact ⟨ys, rfl, by rw [k1] at k2; exact k2⟩
 have heq : (Op.equal t (.agg xs) (.agg ys)).run P w = .ok (eqCells a b) w := by
  rw [h1, k1]
  exact run_equal_shape 8 t D sh 10000 _ _ hD hsh (by omega) hfx hfy
 cases neg <;> simp [eqGuard, Sem.run_bind, hg, binOp, heq]
theorem parts_struct {places : List (Nat × Nat)} {e e' : Operand → Value} : ∀ {l : List (Nat × Operand)} {qs : List (Nat × Nat × Operand)}, (∀ x ∈ l, VRel ρ (e x.2) (e' x.2)) →
  l.mapM (fun p => (places[p.1]?).map fun q => (q.1, q.2, p.2)) = some qs → Parts ρ (fun i => places[i]?) (qs.map fun p => (p.1, p.2.1, e p.2.2)) (l.map fun p => (p.1, e' p.2)) := by
 intro l
 induction l with
 | nil => intro qs _ h; simp at h; subst h; exact .nil
 | cons p l ih =>
  intro qs hx h
  simp only [List.mapM_cons, bind, Option.bind_eq_some_iff, Option.map_eq_some_iff, pure, Option.some.injEq] at h
  obtain ⟨q, ⟨pl, h1, rfl⟩, qs', h2, rfl⟩ := h
  exact .cons h1 (hx p (by simp)) (ih (fun x h => hx x (by simp [h])) h2)
theorem parts_array {size : Nat} {e e' : Operand → Value} : ∀ {l : List (Nat × Operand)}, (∀ x ∈ l, VRel ρ (e x.2) (e' x.2)) →
  Parts ρ (fun i => some (i * size, size)) ((l.map (cpart size)).map fun p => (p.1, p.2.1, e p.2.2)) (l.map fun p => (p.1, e' p.2)) := by
 intro l
 induction l with
 | nil => intro _; exact .nil
 | cons p l ih => intro hx; exact .cons rfl (hx p (by simp)) (ih fun x h => hx x (by simp [h]))
theorem Sees.at {h : List O} {bs : List Nat} {b : Nat} {L : Loc} (hs : Sees ρ w h bs) (hb : b ∈ bs) (hL : ρ b = some L) : ∀ o, h[b]? = some o → CRel ρ w L o := fun o ho => by
 obtain ⟨L', hL', hc⟩ := hs b hb o ho
 obtain rfl : L = L' := Option.some.inj (hL.symm.trans hL')
 exact hc
theorem Sees.left {h : List O} {a b : List Nat} (hs : Sees ρ w h (a ++ b)) : Sees ρ w h a := fun k hk => hs k (List.mem_append.2 (.inl hk))
theorem Sees.right {h : List O} {a b : List Nat} (hs : Sees ρ w h (a ++ b)) : Sees ρ w h b := fun k hk => hs k (List.mem_append.2 (.inr hk))
structure Given (ρ : RM) (o : Op) (e e' : Operand → Value) : Prop where
 rel : ∀ x ∈ o.operands, VRel ρ (e x) (e' x)
 const : ∀ v, e' (.const v) = v
 constE : ∀ v, e (.const v) = v
theorem step_ok {o : Oper} {r : ROp} {e e' : Operand → Value} {st st' : St} {v : Value} (hc : cop P o = some r) (hg : Given ρ o.op e e') (hd : st'.h.length ≠ st.h.length → Dom ρ st.h) (hsee : Sees ρ w st.h ((fpOf r e st).r ++ (fpOf r e st).w)) (hs : step r e st = some (.val v, st')) :
  StepOk ρ w st st' v (fpOf r e st).w ((execOp e' o).run P w) := by
 have hstill : ∀ {v0 v' : Value} {s : Sem Value}, s.run P w = .ok v' w → VRel ρ v0 v' → StepOk ρ w st st v0 (fpOf r e st).w ((do pure (Next.value (← s)) : Sem Next).run P w) := fun h1 h2 => .still (ok_pure h1 h2)
 unfold cop at hc
 split at hc
 ·cases hc
 unfold execOp
 cases hop : o.op <;> simp only [hop] at hc hg ⊢
 all_goals first | (cases hc; done) | skip
 case move x =>
  obtain rfl := Option.some.inj hc
  simp only [step, Option.some.injEq, Prod.mk.injEq, Res.val.injEq] at hs
  obtain ⟨rfl, rfl⟩ := hs
  exact .still ⟨ρ, e' x, w, .inl rfl, Eff.refl ρ w _, hg.rel x (by simp [Op.operands])⟩
 case assign x =>
  obtain rfl := Option.some.inj hc
  simp only [step, Option.some.injEq, Prod.mk.injEq, Res.val.injEq] at hs
  obtain ⟨rfl, rfl⟩ := hs
  exact .still ⟨ρ, e' x, w, .inl rfl, Eff.refl ρ w _, hg.rel x (by simp [Op.operands])⟩
 case pick c a b =>
  obtain rfl := Option.some.inj hc
  simp only [step] at hs
  split at hs
  ·rename_i t ht
   simp only [Option.some.injEq, Prod.mk.injEq, Res.val.injEq] at hs
   obtain ⟨rfl, rfl⟩ := hs
   have hcv := hg.rel c (by simp [Op.operands])
   rw [ht] at hcv
   have := hcv.bool
   refine .still ⟨ρ, if t then e' a else e' b, w, .inl (by simp [Sem.run_bind, this, asBool]), Eff.refl ρ w _, ?_⟩
   cases t
   ·exact hg.rel b (by simp [Op.operands])
   ·exact hg.rel a (by simp [Op.operands])
  ·cases hs
 case alloc elem =>
  simp only [Option.map_eq_some_iff] at hc
  obtain ⟨z, hz, rfl⟩ := hc
  simp only [step, Option.some.injEq, Prod.mk.injEq, Res.val.injEq] at hs
  obtain ⟨rfl, rfl⟩ := hs
  exact .made rfl (new_ok (hd (by simp)) hz)
 case box elem x =>
  obtain rfl := Option.some.inj hc
  simp only [step, Option.some.injEq, Prod.mk.injEq, Res.val.injEq] at hs
  obtain ⟨rfl, rfl⟩ := hs
  exact .made rfl (box_ok (hd (by simp)) (hg.rel x (by simp [Op.operands])))
 case build t parts =>
  have hparts : ∀ x ∈ parts.toList, VRel ρ (e x.2) (e' x.2) := fun x hx => hg.rel x.2 (by simp [Op.operands]; exact ⟨x.1, by simpa using hx⟩)
  unfold cbuild at hc
  split at hc
  ·rename_i zero fields hz hu
   split at hc
   ·rename_i places hp
    simp only [Option.map_eq_some_iff] at hc
    obtain ⟨qs, hq, rfl⟩ := hc
    simp only [step, Option.map_eq_some_iff, Prod.mk.injEq, Res.val.injEq] at hs
    obtain ⟨v0, ⟨l, hl, rfl⟩, rfl, rfl⟩ := hs
    exact .still (build_struct_ok hz hu hp (by simpa using parts_struct hparts hq) hl)
   ·cases hc
  ·rename_i zero n elem hz hu
   simp only [Option.map_eq_some_iff] at hc
   obtain ⟨size, hsz, rfl⟩ := hc
   simp only [step, Option.map_eq_some_iff, Prod.mk.injEq, Res.val.injEq] at hs
   obtain ⟨v0, ⟨l, hl, rfl⟩, rfl, rfl⟩ := hs
   exact .still (build_array_ok hz hu hsz (by simpa using parts_array hparts) hl)
  ·cases hc
 case buildSlice t len parts =>
  have hparts : ∀ x ∈ parts.toList, VRel ρ (e x.2) (e' x.2) := fun x hx => hg.rel x.2 (by simp [Op.operands]; exact ⟨x.1, by simpa using hx⟩)
  split at hc
  ·rename_i elem hu
   split at hc
   ·rename_i size z hsz hz
    split at hc
    ·rename_i hcond
     simp only [Bool.and_eq_true, decide_eq_true_eq, Bool.or_eq_true, beq_iff_eq, bne_iff_ne, ne_eq, List.isEmpty_iff, Array.isEmpty_iff] at hcond
     obtain ⟨⟨⟨c1, c2⟩, c3⟩, c4⟩ := hcond
     obtain rfl := Option.some.inj hc
     simp only [step] at hs
     split at hs
     ·rename_i hl0
      subst hl0
      simp only [Option.some.injEq, Prod.mk.injEq, Res.val.injEq] at hs
      obtain ⟨rfl, rfl⟩ := hs
      have hp0 : parts = #[] := by rcases c4 with h | h; exact absurd rfl h; exact h
      subst hp0
      exact .still (by simpa using buildSlice_none (ρ := ρ) (w := w) (h := st.h) hu hsz)
     ·rename_i hl0
      simp only [bind, Option.bind_eq_some_iff, Option.some.injEq, Prod.mk.injEq, Res.val.injEq] at hs
      obtain ⟨l, hl, rfl, rfl⟩ := hs
      exact .made rfl (buildSlice_ok (hd (by simp)) hu hsz hz c3 c1 c2 hl0 (by simpa using parts_array hparts) hl)
    ·cases hc
   ·cases hc
  ·cases hc
 case load t a =>
  simp only [Option.map_eq_some_iff] at hc
  obtain ⟨n, hn, rfl⟩ := hc
  have hse : Sees ρ w st.h (blk (e a)) := by simpa [fpOf] using hsee
  have hav := hg.rel a (by simp [Op.operands])
  cases n with
  | none =>
   simp only [step] at hs
   split at hs
   ·rename_i b i hea
    rw [hea] at hav hse
    simp only [Option.map_eq_some_iff, Prod.mk.injEq, Res.val.injEq] at hs
    obtain ⟨v0, hv0, rfl, rfl⟩ := hs
    obtain ⟨L, hL, _⟩ := hav.inv_ptr
    obtain ⟨v', h1, h2⟩ := load_ok (P := P) (w := w) hn hL (hse.at (by simp [blk]) hL) hav hv0
    exact hstill h1 h2
   ·cases hs
  | some n =>
   simp only [step] at hs
   split at hs
   ·rename_i b i hea
    rw [hea] at hav hse
    simp only [Option.map_eq_some_iff, Prod.mk.injEq, Res.val.injEq] at hs
    obtain ⟨v0, hv0, rfl, rfl⟩ := hs
    obtain ⟨L, hL, _⟩ := hav.inv_ptr
    obtain ⟨v', h1, h2⟩ := load_ok (P := P) (w := w) hn hL (hse.at (by simp [blk]) hL) hav (by simpa using hv0)
    exact hstill h1 h2
   ·cases hs
 case store t a x =>
  simp only [Option.map_eq_some_iff] at hc
  obtain ⟨n, hn, rfl⟩ := hc
  have hse : Sees ρ w st.h (blk (e a)) := by simpa [fpOf] using hsee
  have hav := hg.rel a (by simp [Op.operands])
  simp only [step] at hs
  split at hs
  ·rename_i b i hea
   rw [hea] at hav hse
   simp only [bind, Option.ite_none_right_eq_some, Option.bind_eq_some_iff, Option.some.injEq, Prod.mk.injEq, Res.val.injEq] at hs
   obtain ⟨hlen, h', hw, rfl, rfl⟩ := hs
   obtain ⟨L, hL, _⟩ := hav.inv_ptr
   have := store_ok (P := P) (w := w) hn hL (hse.at (by simp [blk]) hL) hav (hg.rel x (by simp [Op.operands])) hlen hw
   exact .wrote (wrN_own hw).2 (by simp [fpOf, hea, blk]) (wrN_own hw).1 this
  ·cases hs
 case nilCheck x =>
  obtain rfl := Option.some.inj hc
  have hxv := hg.rel x (by simp [Op.operands])
  simp only [step] at hs
  split at hs
  ·rename_i a hea
   rw [hea] at hxv
   simp only [Option.some.injEq, Prod.mk.injEq, Res.val.injEq] at hs
   obtain ⟨rfl, rfl⟩ := hs
   generalize e' x = x' at hxv ⊢
   cases hxv with
   | flat h1 _ => simp [flat] at h1
   | ptr hl => exact .still ⟨ρ, _, w, .inl rfl, Eff.refl ρ w _, .ptr hl⟩
  ·cases hs
 case binOp op t x y yt =>
  have hxv := hg.rel x (by simp [Op.operands])
  have hyv := hg.rel y (by simp [Op.operands])
  unfold cbin at hc
  split at hc
  ·obtain rfl := Option.some.inj hc
   simp only [step, Option.map_eq_some_iff, Prod.mk.injEq, Res.val.injEq] at hs
   obtain ⟨v0, hv0, rfl, rfl⟩ := hs
   obtain ⟨v', h1, h2⟩ := binV_ok (P := P) (w := w) (t := t) (X := x) (Y := y) hv0 hxv hyv
   exact hstill h1 h2
  ·obtain rfl := Option.some.inj hc
   simp only [step, Option.map_eq_some_iff, Prod.mk.injEq, Res.val.injEq] at hs
   obtain ⟨v0, hv0, rfl, rfl⟩ := hs
   obtain ⟨v', h1, h2⟩ := binV_ok (P := P) (w := w) (t := t) (X := x) (Y := y) hv0 hxv hyv
   exact hstill h1 h2
  ·rename_i hu
   obtain rfl := Option.some.inj hc
   simp only [step, Option.map_eq_some_iff, Prod.mk.injEq, Res.val.injEq] at hs
   obtain ⟨v0, hv0, rfl, rfl⟩ := hs
   obtain ⟨v', h1, h2⟩ := binBV_ok (P := P) (w := w) (t := t) (X := x) (Y := y) hu hv0 hxv hyv
   exact hstill h1 h2
  ·rename_i hu
   split at hc
   ·cases hc
   ·rename_i hgd
    have hgd' : P.eqGuardType P.depth t = false := by simpa using hgd
    split at hc
    ·rename_i sh hsh
     obtain rfl := Option.some.inj hc
     simp only [step, bind, Option.bind_eq_some_iff, Option.some.injEq, Prod.mk.injEq, Res.val.injEq] at hs
     obtain ⟨a, ha, b, hb, rfl, rfl⟩ := hs
     exact hstill (eqAgg_ok (neg := false) (X := x) (Y := y) hu rfl hsh hgd' ha hb hxv hyv) (flat_bool _)
    ·rename_i sh hsh
     obtain rfl := Option.some.inj hc
     simp only [step, bind, Option.bind_eq_some_iff, Option.some.injEq, Prod.mk.injEq, Res.val.injEq] at hs
     obtain ⟨a, ha, b, hb, rfl, rfl⟩ := hs
     exact hstill (eqAgg_ok (neg := true) (X := x) (Y := y) hu rfl hsh hgd' ha hb hxv hyv) (flat_bool _)
    ·cases hc
  ·rename_i hu
   split at hc
   ·cases hc
   ·rename_i hgd
    have hgd' : P.eqGuardType P.depth t = false := by simpa using hgd
    split at hc
    ·rename_i sh hsh
     obtain rfl := Option.some.inj hc
     simp only [step, bind, Option.bind_eq_some_iff, Option.some.injEq, Prod.mk.injEq, Res.val.injEq] at hs
     obtain ⟨a, ha, b, hb, rfl, rfl⟩ := hs
     exact hstill (eqAgg_ok (neg := false) (X := x) (Y := y) hu rfl hsh hgd' ha hb hxv hyv) (flat_bool _)
    ·rename_i sh hsh
     obtain rfl := Option.some.inj hc
     simp only [step, bind, Option.bind_eq_some_iff, Option.some.injEq, Prod.mk.injEq, Res.val.injEq] at hs
     obtain ⟨a, ha, b, hb, rfl, rfl⟩ := hs
     exact hstill (eqAgg_ok (neg := true) (X := x) (Y := y) hu rfl hsh hgd' ha hb hxv hyv) (flat_bool _)
    ·cases hc
  ·split at hc
   ·rename_i k hk
    obtain rfl := Option.some.inj hc
    simp only [step, Option.map_eq_some_iff, Prod.mk.injEq, Res.val.injEq] at hs
    obtain ⟨_, ⟨b, hb, rfl⟩, rfl, rfl⟩ := hs
    exact hstill (eqNil_ok (neg := false) (X := x) hk hb hxv e' hg.const) (flat_bool _)
   ·rename_i k hk
    obtain rfl := Option.some.inj hc
    simp only [step, Option.map_eq_some_iff, Prod.mk.injEq, Res.val.injEq] at hs
    obtain ⟨_, ⟨b, hb, rfl⟩, rfl, rfl⟩ := hs
    exact hstill (eqNil_ok (neg := true) (X := x) hk hb hxv e' hg.const) (flat_bool _)
   ·cases hc
 case unOp op t x =>
  obtain rfl := Option.some.inj hc
  simp only [step, Option.map_eq_some_iff, Prod.mk.injEq, Res.val.injEq] at hs
  obtain ⟨v0, hv0, rfl, rfl⟩ := hs
  obtain ⟨v', h1, h2⟩ := unV_ok (P := P) (w := w) hv0 (hg.rel x (by simp [Op.operands]))
  exact hstill h1 h2
 case convert src dst x =>
  split at hc
  ·rename_i ks k hsrc hdst
   obtain rfl := Option.some.inj hc
   have hxv := hg.rel x (by simp [Op.operands])
   simp only [step] at hs
   split at hs
   ·rename_i kv n hx
    rw [hx] at hxv
    simp only [Option.some.injEq, Prod.mk.injEq, Res.val.injEq] at hs
    obtain ⟨rfl, rfl⟩ := hs
    exact hstill (conv_ok hsrc hdst hxv) (flat_int _ _)
   ·cases hs
  ·rename_i el hsrc hdst
   split at hc
   ·rename_i hel
    obtain rfl := Option.some.inj hc
    have hxv := hg.rel x (by simp [Op.operands])
    have hse : Sees ρ w st.h (blk (e x)) := by simpa [fpOf] using hsee
    simp only [step, Option.map_eq_some_iff, Prod.mk.injEq, Res.val.injEq] at hs
    obtain ⟨v0, hv0, rfl, rfl⟩ := hs
    obtain ⟨v', h1, h2⟩ := strOf_ok (P := P) (w := w) hsrc hel hdst hv0 hxv hse
    exact hstill h1 h2
   ·cases hc
  ·cases hc
 case makeInterface t x =>
  have hxv := hg.rel x (by simp [Op.operands])
  split at hc
  ·cases hc
  ·cases hc
  ·rename_i D hno hD
   obtain rfl := Option.some.inj hc
   simp only [step, Option.some.injEq, Prod.mk.injEq, Res.val.injEq] at hs
   obtain ⟨rfl, rfl⟩ := hs
   refine hstill (v' := .iface t (e' x)) ?_ (.iface hxv)
   cases D <;> first
    | (exact absurd rfl (hno _))
    | (simp [Instr.makeInterface, Sem.run_bind, run_underlying hD])
 case makeFunc fn first captured =>
  cases fn <;> simp only at hc
  all_goals first | (cases hc; done) | skip
  rename_i f
  split at hc
  ·rename_i hfirst
   obtain rfl := Option.some.inj hc
   simp only [step, Option.some.injEq, Prod.mk.injEq, Res.val.injEq] at hs
   obtain ⟨rfl, rfl⟩ := hs
   have hf0 : first = #[] := by simpa using hfirst
   subst hf0
   have hl : LRel ρ (captured.toList.map e) (captured.toList.map e') := LRel.map captured.toList fun x hx => hg.rel x (by simp [Op.operands]; simpa using hx)
   refine hstill (v' := .func (.func f) #[] (captured.toList.map e').toArray) ?_ (.func hl.1 hl.2)
   simp [Instr.makeFunc]
   apply Array.ext'
   simp
  ·cases hc
 case makeMap t res =>
  cases res with
  | some _ => cases hc
  | none =>
   obtain rfl := Option.some.inj hc
   simp only [step, Option.some.injEq, Prod.mk.injEq, Res.val.injEq] at hs
   obtain ⟨rfl, rfl⟩ := hs
   exact mkMap_ok (hd (by simp))
 case makeSlice t l c =>
  split at hc
  ·rename_i elem hu
   split at hc
   ·rename_i size z b hsz hz hb
    split at hc
    ·rename_i hcond
     simp only [Bool.and_eq_true, decide_eq_true_eq, beq_iff_eq] at hcond
     obtain rfl := Option.some.inj hc
     have hlv := hg.rel l (by simp [Op.operands])
     have hcv := hg.rel c (by simp [Op.operands])
     simp only [step] at hs
     split at hs
     ·rename_i ln cn hl hcn
      split at hs
      ·rename_i hcd
       rw [hl] at hlv
       rw [hcn] at hcv
       simp only [Option.some.injEq, Prod.mk.injEq, Res.val.injEq] at hs
       obtain ⟨rfl, rfl⟩ := hs
       rw [hlv.int, hcv.int]
       exact .made rfl (makeSlice_ok (hd (by simp)) hu hsz hb hz hcond.2 hcond.1 hcd.1 hcd.2.1 hcd.2.2.1 hcd.2.2.2)
      ·cases hs
     ·cases hs
    ·cases hc
   ·cases hc
  ·cases hc
 case slice t x lo hi mx =>
  split at hc
  ·rename_i elem hu
   split at hc
   ·rename_i size hsz
    split at hc
    ·rename_i h0
     obtain rfl := Option.some.inj hc
     have hse : Sees ρ w st.h (blk (e x)) := by simpa [fpOf] using hsee
     simp only [step, Option.map_eq_some_iff, Prod.mk.injEq, Res.val.injEq] at hs
     obtain ⟨v0, hv0, rfl, rfl⟩ := hs
     have horel : ∀ (y : Option Operand), (∀ o, y = some o → o ∈ Op.operands (.slice t x lo hi mx)) → ORel ρ (y.map e) (y.map e') := fun y hy => by
      cases y with
      | none => trivial
      | some o => exact hg.rel o (hy o rfl)
     exact .still (slice_ok hu hsz hv0 (hg.rel x (by simp [Op.operands])) (horel lo fun o h => by subst h; simp [Op.operands]) (horel hi fun o h => by subst h; simp [Op.operands]) (horel mx fun o h => by subst h; simp [Op.operands]) hse)
    ·cases hc
   ·cases hc
  ·rename_i arr hu
   split at hc
   ·rename_i len elem ha
    split at hc
    ·rename_i size hsz
     split at hc
     ·rename_i h0
      obtain rfl := Option.some.inj hc
      have hxv := hg.rel x (by simp [Op.operands])
      simp only [step] at hs
      split at hs
      ·rename_i b i hx
       rw [hx] at hxv
       simp only [Option.map_eq_some_iff, Prod.mk.injEq, Res.val.injEq] at hs
       obtain ⟨v0, hv0, rfl, rfl⟩ := hs
       have horel : ∀ (y : Option Operand), (∀ o, y = some o → o ∈ Op.operands (.slice t x lo hi mx)) → ORel ρ (y.map e) (y.map e') := fun y hy => by
        cases y with
        | none => trivial
        | some o => exact hg.rel o (hy o rfl)
       exact .still (sliceA_ok hu ha hsz hv0 hxv (horel lo fun o h => by subst h; simp [Op.operands]) (horel hi fun o h => by subst h; simp [Op.operands]) (horel mx fun o h => by subst h; simp [Op.operands]))
      ·cases hs
     ·cases hc
    ·cases hc
   ·cases hc
  ·rename_i len elem hu
   split at hc
   ·rename_i size hsz
    split at hc
    ·rename_i h0
     obtain rfl := Option.some.inj hc
     have hxv := hg.rel x (by simp [Op.operands])
     simp only [step] at hs
     split at hs
     ·rename_i b i hx
      rw [hx] at hxv
      simp only [Option.map_eq_some_iff, Prod.mk.injEq, Res.val.injEq] at hs
      obtain ⟨v0, hv0, rfl, rfl⟩ := hs
      have horel : ∀ (y : Option Operand), (∀ o, y = some o → o ∈ Op.operands (.slice t x lo hi mx)) → ORel ρ (y.map e) (y.map e') := fun y hy => by
       cases y with
       | none => trivial
       | some o => exact hg.rel o (hy o rfl)
      exact .still (sliceB_ok hu hsz hv0 hxv (horel lo fun o h => by subst h; simp [Op.operands]) (horel hi fun o h => by subst h; simp [Op.operands]) (horel mx fun o h => by subst h; simp [Op.operands]))
     ·cases hs
    ·cases hc
   ·cases hc
  ·rename_i hu
   split at hc
   ·rename_i hmx
    obtain rfl := Option.some.inj hc
    obtain rfl : mx = none := by simpa using hmx
    simp only [step, Option.map_eq_some_iff, Prod.mk.injEq, Res.val.injEq] at hs
    obtain ⟨v0, hv0, rfl, rfl⟩ := hs
    have horel : ∀ (y : Option Operand), (∀ o, y = some o → o ∈ Op.operands (.slice t x lo hi none)) → ORel ρ (y.map e) (y.map e') := fun y hy => by
     cases y with
     | none => trivial
     | some o => exact hg.rel o (hy o rfl)
    obtain ⟨v', h1, h2⟩ := strSl_ok (P := P) (w := w) hu hv0 (hg.rel x (by simp [Op.operands])) (horel lo fun o h => by subst h; simp [Op.operands]) (horel hi fun o h => by subst h; simp [Op.operands])
    exact hstill h1 h2
   ·cases hc
  ·cases hc
 case fieldAddr s x f =>
  split at hc
  ·rename_i fields hu
   split at hc
   ·rename_i fd hf
    split at hc
    ·rename_i n hn
     split at hc
     ·rename_i h0
      obtain rfl := Option.some.inj hc
      have hxv := hg.rel x (by simp [Op.operands])
      simp only [step] at hs
      split at hs
      ·rename_i b i hx
       rw [hx] at hxv
       simp only [Option.some.injEq, Prod.mk.injEq, Res.val.injEq] at hs
       obtain ⟨rfl, rfl⟩ := hs
       exact .still (faddr_ok hu hf hn h0 hxv)
      ·cases hs
     ·cases hc
    ·cases hc
   ·cases hc
  ·cases hc
 case field s x f =>
  split at hc
  ·rename_i fields hu
   split at hc
   ·rename_i fd hf
    simp only [Option.map_eq_some_iff] at hc
    obtain ⟨n, hn, rfl⟩ := hc
    have hxv := hg.rel x (by simp [Op.operands])
    simp only [step] at hs
    split at hs
    ·rename_i cs hx
     rw [hx] at hxv
     simp only [Option.map_eq_some_iff, Prod.mk.injEq, Res.val.injEq] at hs
     obtain ⟨v0, hv0, rfl, rfl⟩ := hs
     exact .still (field_ok hu hf hn hxv hv0)
    ·cases hs
   ·cases hc
  ·cases hc
 case indexAddr t x i =>
  have hxv := hg.rel x (by simp [Op.operands])
  have hiv := hg.rel i (by simp [Op.operands])
  split at hc
  ·rename_i elem hu
   simp only [Option.map_eq_some_iff] at hc
   obtain ⟨size, hsz, rfl⟩ := hc
   simp only [step] at hs
   split at hs
   ·rename_i b o n c k j hx hi
    split at hs
    ·rename_i hj
     rw [hx] at hxv
     rw [hi] at hiv
     simp only [Option.some.injEq, Prod.mk.injEq, Res.val.injEq] at hs
     obtain ⟨rfl, rfl⟩ := hs
     exact .still (iaddrS_ok hu hsz hxv hiv hj.1 hj.2)
    ·cases hs
   ·cases hs
  ·rename_i len elem hu
   split at hc
   ·simp only [Option.map_eq_some_iff] at hc
    obtain ⟨size, hsz, rfl⟩ := hc
    simp only [step] at hs
    split at hs
    ·rename_i b o k j hx hi
     split at hs
     ·rename_i hj
      rw [hx] at hxv
      rw [hi] at hiv
      simp only [Option.some.injEq, Prod.mk.injEq, Res.val.injEq] at hs
      obtain ⟨rfl, rfl⟩ := hs
      exact .still (iaddrA_ok hu hsz hxv hiv hj.1 hj.2)
     ·cases hs
    ·cases hs
   ·cases hc
  ·cases hc
 case index t x i =>
  have hxv := hg.rel x (by simp [Op.operands])
  have hiv := hg.rel i (by simp [Op.operands])
  split at hc
  ·rename_i len elem hu
   split at hc
   ·rename_i size n hsz hn
    obtain rfl := Option.some.inj hc
    simp only [step] at hs
    split at hs
    ·rename_i cs k j hx hi
     split at hs
     ·rename_i hj
      rw [hx] at hxv
      rw [hi] at hiv
      simp only [Option.map_eq_some_iff, Prod.mk.injEq, Res.val.injEq] at hs
      obtain ⟨v0, hv0, rfl, rfl⟩ := hs
      exact .still (indexA_ok hu hsz hn hxv hiv hj.1 hj.2 hv0)
     ·cases hs
    ·cases hs
   ·cases hc
  ·rename_i hu
   obtain rfl := Option.some.inj hc
   simp only [step, Option.map_eq_some_iff, Prod.mk.injEq, Res.val.injEq] at hs
   obtain ⟨v0, hv0, rfl, rfl⟩ := hs
   obtain ⟨v', h1, h2⟩ := strIdx_ok (P := P) (w := w) hu hv0 hxv hiv
   exact hstill h1 h2
  ·cases hc
 case lookup t x k ok =>
  split at hc
  ·rename_i key elem hu
   split at hc
   ·rename_i sh ag z hk hz
    obtain rfl := Option.some.inj hc
    have hse : Sees ρ w st.h (blk (e x)) := by simpa [fpOf] using hsee
    have hxv := hg.rel x (by simp [Op.operands])
    have hkv := hg.rel k (by simp [Op.operands])
    simp only [step] at hs
    split at hs
    ·rename_i b hx
     split at hs
     ·rename_i es clock hb
      rw [hx] at hxv hse
      simp only [bind, Option.bind_eq_some_iff, Option.some.injEq, Prod.mk.injEq, Res.val.injEq] at hs
      obtain ⟨f, hf, rfl, rfl⟩ := hs
      obtain ⟨v', h1, h2⟩ := lookup_ok (P := P) (w := w) (ok := ok) hu hk hz hxv hb (hse b (by simp [blk])) hkv hf
      exact hstill h1 h2
     ·cases hs
    ·cases hs
   ·cases hc
  ·cases hc
 case mapUpdate t m k x =>
  split at hc
  ·rename_i key elem hu
   simp only [Option.map_eq_some_iff] at hc
   obtain ⟨⟨sh, ag⟩, hk, rfl⟩ := hc
   have hse : Sees ρ w st.h (blk (e m)) := by simpa [fpOf] using hsee
   have hmv := hg.rel m (by simp [Op.operands])
   have hkv := hg.rel k (by simp [Op.operands])
   have hxv := hg.rel x (by simp [Op.operands])
   simp only [step] at hs
   split at hs
   ·rename_i b hm
    split at hs
    ·rename_i es clock hb
     rw [hm] at hmv hse
     simp only [bind, Option.bind_eq_some_iff, Option.some.injEq, Prod.mk.injEq, Res.val.injEq] at hs
     obtain ⟨f, hf, rfl, rfl⟩ := hs
     have := mapUpd_ok (P := P) (w := w) hu hk hmv hb (hse b (by simp [blk])) hkv hxv hf
     have hw : (fpOf (ROp.mapUpd sh ag m k x) e st).w = [b] := by simp [fpOf, hm, blk]
     rw [hw]
     cases f <;> exact this
    ·cases hs
   ·cases hs
  ·cases hc
 case insert t m k x =>
  split at hc
  ·rename_i key elem hu
   simp only [Option.map_eq_some_iff] at hc
   obtain ⟨⟨sh, ag⟩, hk, rfl⟩ := hc
   have hse : Sees ρ w st.h (blk (e m)) := by simpa [fpOf] using hsee
   have hmv := hg.rel m (by simp [Op.operands])
   have hkv := hg.rel k (by simp [Op.operands])
   have hxv := hg.rel x (by simp [Op.operands])
   simp only [step] at hs
   split at hs
   ·rename_i b hm
    split at hs
    ·rename_i es clock hb
     rw [hm] at hmv hse
     simp only [bind, Option.bind_eq_some_iff, Option.some.injEq, Prod.mk.injEq, Res.val.injEq] at hs
     obtain ⟨f, hf, rfl, rfl⟩ := hs
     have := mapUpd_ok (P := P) (w := w) hu hk hmv hb (hse b (by simp [blk])) hkv hxv hf
     have hw : (fpOf (ROp.mapUpd sh ag m k x) e st).w = [b] := by simp [fpOf, hm, blk]
     rw [hw]
     cases f <;> exact this
    ·cases hs
   ·cases hs
  ·cases hc
 case mapEntry t m k =>
  split at hc
  ·rename_i key elem hu
   split at hc
   ·rename_i sh ag z hk hz
    obtain rfl := Option.some.inj hc
    have hse : Sees ρ w st.h (blk (e m)) := by simpa [fpOf] using hsee
    have hmv := hg.rel m (by simp [Op.operands])
    have hkv := hg.rel k (by simp [Op.operands])
    simp only [step] at hs
    split at hs
    ·rename_i b hm
     split at hs
     ·rename_i es clock hb
      rw [hm] at hmv hse
      simp only [bind, Option.bind_eq_some_iff] at hs
      obtain ⟨f, hf, hs⟩ := hs
      have := mapEntry_ok (P := P) (w := w) hu hk hz hmv hb (hse b (by simp [blk])) hkv hf
      have hw : (fpOf (ROp.mapEntry sh ag z m k) e st).w = [b] := by simp [fpOf, hm, blk]
      rw [hw]
      cases f with
      | none =>
       simp only [Option.some.injEq, Prod.mk.injEq, Res.val.injEq] at hs
       obtain ⟨rfl, rfl⟩ := hs
       exact this
      | some p =>
       simp only [Option.some.injEq, Prod.mk.injEq, Res.val.injEq] at hs
       obtain ⟨rfl, rfl⟩ := hs
       exact this
     ·cases hs
    ·cases hs
   ·cases hc
  ·cases hc
 case entryStore t m sv x =>
  obtain rfl := Option.some.inj hc
  have hse : Sees ρ w st.h (blk (e m)) := by simpa [fpOf] using hsee
  have hmv := hg.rel m (by simp [Op.operands])
  have hsv := hg.rel sv (by simp [Op.operands])
  have hxv := hg.rel x (by simp [Op.operands])
  simp only [step] at hs
  split at hs
  ·rename_i b born hm hsb
   split at hs
   ·rename_i es clock hb
    split at hs
    ·rename_i i hi
     rw [hm] at hmv hse
     rw [hsb] at hsv
     simp only [Option.some.injEq, Prod.mk.injEq, Res.val.injEq] at hs
     obtain ⟨rfl, rfl⟩ := hs
     have hw : (fpOf (ROp.entryStore m sv x) e st).w = [b] := by simp [fpOf, hm, blk]
     rw [hw]
     exact entryStore_ok hmv hb (hse b (by simp [blk])) hsv hxv hi
    ·cases hs
   ·cases hs
  ·cases hs
 case range t x =>
  split at hc
  ·rename_i key elem hu
   obtain rfl := Option.some.inj hc
   have hse : Sees ρ w st.h (blk (e x)) := by simpa [fpOf] using hsee
   have hxv := hg.rel x (by simp [Op.operands])
   simp only [step] at hs
   split at hs
   ·rename_i b hx
    split at hs
    ·rename_i es clock hb
     rw [hx] at hxv hse
     simp only [Option.some.injEq, Prod.mk.injEq, Res.val.injEq] at hs
     obtain ⟨rfl, rfl⟩ := hs
     exact range_ok (hd (by simp)) hu hxv hb (hse b (by simp [blk]))
    ·cases hs
   ·cases hs
  ·cases hc
 case next it iss =>
  cases iss <;> simp only at hc
  ·obtain rfl := Option.some.inj hc
   have hiv := hg.rel it (by simp [Op.operands])
   have hse : Sees ρ w st.h (iterMap st.h (blk (e it))) := fun k hk => hsee k (by simp [fpOf]; exact .inl hk)
   simp only [step] at hs
   split at hs
   ·rename_i r b since seen hn
    simp only [Option.some.injEq, Prod.mk.injEq, Res.val.injEq] at hs
    obtain ⟨rfl, rfl⟩ := hs
    obtain ⟨hb, h⟩ := next_ok (P := P) (w := w) (ty := o.type) hn hiv hse
    have hw : (fpOf (ROp.next it) e st).w = [r] := by simp [fpOf, hb]
    rw [hw]
    rcases h with ⟨_, h⟩ | ⟨en, hen, _⟩
    ·exact h
    ·simp at hen
   ·rename_i r b since seen en hn
    simp only [Option.some.injEq, Prod.mk.injEq, Res.val.injEq] at hs
    obtain ⟨rfl, rfl⟩ := hs
    obtain ⟨hb, h⟩ := next_ok (P := P) (w := w) (ty := o.type) hn hiv hse
    have hw : (fpOf (ROp.next it) e st).w = [r] := by simp [fpOf, hb]
    rw [hw]
    rcases h with ⟨h, _⟩ | ⟨en', hen, h⟩
    ·cases h
    ·simp at hen
     subst hen
     exact h
   ·cases hs
  ·cases hc
 case entry it =>
  obtain rfl := Option.some.inj hc
  have hiv := hg.rel it (by simp [Op.operands])
  have hse : Sees ρ w st.h (iterMap st.h (blk (e it))) := fun k hk => hsee k (by simp [fpOf]; exact hk)
  simp only [step] at hs
  split at hs
  ·rename_i r hit
   split at hs
   ·rename_i b since seen stepped hr
    split at hs
    ·rename_i es clock hb
     split at hs
     ·rename_i hst
      split at hs
      ·rename_i stamp hstamp
       split at hs
       ·rename_i hp
        simp only [Option.map_eq_some_iff, Prod.mk.injEq, Res.val.injEq] at hs
        obtain ⟨v0, ⟨en, hen, rfl⟩, rfl, rfl⟩ := hs
        rw [hit] at hiv hse
        have e1 : blk (.pointer (some ⟨r, 0, none⟩)) = [r] := rfl
        rw [e1, iterMap_two hr] at hse
        obtain ⟨v', h1, h2⟩ := entry_ok (P := P) (w := w) hiv hr hb hst hstamp hp hen hse
        exact hstill h1 h2
       ·cases hs
      ·cases hs
     ·cases hs
    ·cases hs
   ·cases hs
  ·cases hs
 case typeAssert x xT t ok =>
  cases ok <;> simp only at hc
  ·cases hc
  ·split at hc
   ·cases hc
   ·cases hc
   ·rename_i D hno hD
    simp only [Option.map_eq_some_iff] at hc
    obtain ⟨z, hz, rfl⟩ := hc
    obtain ⟨rfl, v', h1, h2⟩ := assert_ok (P := P) (w := w) (xT := xT) hD (fun m h => hno m h) hz (hg.rel x (by simp [Op.operands])) rfl hs
    exact hstill h1 h2
 case extract x i =>
  obtain rfl := Option.some.inj hc
  have hxv := hg.rel x (by simp [Op.operands])
  simp only [step] at hs
  split at hs
  ·rename_i vs hx
   rw [hx] at hxv
   simp only [Option.map_eq_some_iff, Prod.mk.injEq, Res.val.injEq] at hs
   obtain ⟨v0, hv0, rfl, rfl⟩ := hs
   exact .still (extract_ok hxv hv0)
  ·cases hs
 case panic x =>
  obtain rfl := Option.some.inj hc
  simp only [step] at hs
  split at hs
  ·simp at hs
  ·cases hs
 case call c =>
  obtain ⟨callee, args, argTypes⟩ := c
  have hop2 : ∀ (x : Operand), x ∈ args.toList → VRel ρ (e x) (e' x) := fun x hx => hg.rel x (by simp only [Op.operands, Call.operands]; exact Array.mem_append.2 (.inr (by simpa using hx)))
  cases callee <;> (try simp only at hc)
  case value f =>
   obtain rfl := Option.some.inj hc
   simp [step] at hs
  case invoke _ _ => cases hc
  case builtin b =>
  cases b <;> simp only at hc
  all_goals first | (cases hc; done) | skip
  case len =>
   split at hc
   ·rename_i x t hargs htys
    have hx := hop2 x (by rw [hargs]; simp)
    obtain rfl : args = #[x] := Array.toList_inj.1 (by simpa using hargs)
    obtain rfl : argTypes = #[t] := Array.toList_inj.1 (by simpa using htys)
    have hrun : ∀ {v' : Value}, (Builtin.len_ #[t] o.type #[e' x]).run P w = .ok v' w → ((do let d ← resolve e' ⟨.builtin .len, #[x], #[t]⟩ o.type; invoke d.target d.args : Sem Next).run P w) = ((do pure (Next.value (← Builtin.len_ #[t] o.type #[e' x])) : Sem Next).run P w) := fun _ => by simp [resolve, invoke, builtin]
    split at hc
    ·rename_i el hu
     obtain rfl := Option.some.inj hc
     simp only [step] at hs
     split at hs
     ·rename_i a n cp _ hex
      rw [hex] at hx
      simp only [Option.some.injEq, Prod.mk.injEq, Res.val.injEq] at hs
      obtain ⟨rfl, rfl⟩ := hs
      obtain ⟨a', c', he', _⟩ := hx.shorter (Nat.le_refl n)
      have hl : (Builtin.len_ #[t] o.type #[e' x]).run P w = .ok (.int .i64 n) w := by simp [Builtin.len_, Sem.run_bind, run_underlying hu, he', goInt]
      rw [hrun hl]
      exact hstill hl (flat_int _ _)
     all_goals first | (rename_i h1 h2; cases h1; done) | (cases hs; done) | skip
     all_goals simp_all
    ·rename_i hu
     obtain rfl := Option.some.inj hc
     simp only [step] at hs
     split at hs
     ·simp_all
     ·rename_i sb _ hex
      rw [hex] at hx
      simp only [Option.some.injEq, Prod.mk.injEq, Res.val.injEq] at hs
      obtain ⟨rfl, rfl⟩ := hs
      have he' := hx.string
      have hl : (Builtin.len_ #[t] o.type #[e' x]).run P w = .ok (.int .i64 sb.size) w := by simp [Builtin.len_, Sem.run_bind, run_underlying hu, he', goInt]
      rw [hrun hl]
      exact hstill hl (flat_int _ _)
     all_goals simp_all
    ·rename_i key el hu
     obtain rfl := Option.some.inj hc
     have hse : Sees ρ w st.h (blk (e x)) := by simpa [fpOf] using hsee
     simp only [step] at hs
     split at hs
     ·simp_all
     ·simp_all
     ·rename_i _ hex
      rw [hex] at hx
      simp only [Option.some.injEq, Prod.mk.injEq, Res.val.injEq] at hs
      obtain ⟨rfl, rfl⟩ := hs
      have he' := hx.same rfl rfl
      have hl : (Builtin.len_ #[t] o.type #[e' x]).run P w = .ok (.int .i64 0) w := by simp [Builtin.len_, Sem.run_bind, run_underlying hu, he', goInt]
      rw [hrun hl]
      exact hstill hl (flat_int _ _)
     ·rename_i bb _ hex
      split at hs
      ·rename_i es clock hb
       rw [hex] at hx hse
       simp only [Option.some.injEq, Prod.mk.injEq, Res.val.injEq] at hs
       obtain ⟨rfl, rfl⟩ := hs
       obtain ⟨L, hL, he'⟩ := hx.inv_map
       obtain ⟨ys, h1, h2, h3⟩ := ((hse.at (by simp [blk]) hL) _ hb).map_inv
       have hl : (Builtin.len_ #[t] o.type #[e' x]).run P w = .ok (.int .i64 es.length) w := by simp [Builtin.len_, Sem.run_bind, run_underlying hu, he', goInt, run_getObj h1, h2.1]
       rw [hrun hl]
       exact hstill hl (flat_int _ _)
      ·cases hs
     ·simp_all
    ·rename_i n el hu
     obtain rfl := Option.some.inj hc
     simp only [step, hg.constE, Option.some.injEq, Prod.mk.injEq, Res.val.injEq] at hs
     obtain ⟨rfl, rfl⟩ := hs
     have hl : (Builtin.len_ #[t] o.type #[e' x]).run P w = .ok (.int .i64 n) w := by simp [Builtin.len_, Sem.run_bind, run_underlying hu, goInt]
     rw [hrun hl]
     exact hstill hl (flat_int _ _)
    ·rename_i a hu
     split at hc
     ·rename_i n el hu2
      obtain rfl := Option.some.inj hc
      simp only [step, hg.constE, Option.some.injEq, Prod.mk.injEq, Res.val.injEq] at hs
      obtain ⟨rfl, rfl⟩ := hs
      have hl : (Builtin.len_ #[t] o.type #[e' x]).run P w = .ok (.int .i64 n) w := by simp [Builtin.len_, Sem.run_bind, run_underlying hu, run_underlying hu2, goInt]
      rw [hrun hl]
      exact hstill hl (flat_int _ _)
     ·cases hc
    ·cases hc
   ·cases hc
  case append =>
   split at hc
   ·rename_i s x sT xT hargs htys
    have hsv := hop2 s (by rw [hargs]; simp)
    have hx := hop2 x (by rw [hargs]; simp)
    obtain rfl : args = #[s, x] := Array.toList_inj.1 (by simpa using hargs)
    obtain rfl : argTypes = #[sT, xT] := Array.toList_inj.1 (by simpa using htys)
    have hrun : ((do let d ← resolve e' ⟨.builtin .append, #[s, x], #[sT, xT]⟩ o.type; invoke d.target d.args : Sem Next).run P w) = ((do pure (Next.value (← Builtin.append_ #[sT, xT] o.type #[e' s, e' x])) : Sem Next).run P w) := by simp [resolve, invoke, builtin]
    rw [hrun]
    split at hc
    ·rename_i elem hu
     split at hc
     ·rename_i size b z hsz hb hz
      split at hc
      ·rename_i hcond
       simp only [Bool.and_eq_true, decide_eq_true_eq, beq_iff_eq] at hcond
       split at hc
       ·rename_i xe hxt
        obtain rfl := Option.some.inj hc
        have hse1 : Sees ρ w st.h (blk (e s)) := fun k hk => hsee k (by simp [fpOf]; exact .inr hk)
        have hse2 : Sees ρ w st.h (blk (e x)) := fun k hk => hsee k (by simp [fpOf]; exact .inl hk)
        simp only [step, Option.map_eq_some_iff, Prod.mk.injEq, Res.val.injEq] at hs
        obtain ⟨⟨v0, st0⟩, ha, rfl, rfl⟩ := hs
        exact append_ok hd hu hxt hsz hb hz hcond.1.1 hcond.1.2 hcond.2 ha hsv hx hse1 hse2
       ·rename_i q hxt
        obtain rfl := Option.some.inj hc
        have hse1 : Sees ρ w st.h (blk (e s)) := fun k hk => hsee k (by simp [fpOf]; exact hk)
        simp only [step, Option.map_eq_some_iff, Prod.mk.injEq, Res.val.injEq] at hs
        obtain ⟨⟨v0, st0⟩, ha, rfl, rfl⟩ := hs
        exact appendZ_ok hd hu hxt hsz hb hz hcond.1.1 hcond.1.2 hcond.2 ha hsv hx hse1
       ·cases hc
      ·cases hc
     ·cases hc
    ·cases hc
   ·cases hc
  case copy =>
   split at hc
   ·rename_i d s dT sT hargs htys
    have hdv := hop2 d (by rw [hargs]; simp)
    have hsv := hop2 s (by rw [hargs]; simp)
    obtain rfl : args = #[d, s] := Array.toList_inj.1 (by simpa using hargs)
    obtain rfl : argTypes = #[dT, sT] := Array.toList_inj.1 (by simpa using htys)
    have hrun : ((do let d ← resolve e' ⟨.builtin .copy, #[d, s], #[dT, sT]⟩ o.type; invoke d.target d.args : Sem Next).run P w) = ((do pure (Next.value (← Builtin.copy_ #[dT, sT] o.type #[e' d, e' s])) : Sem Next).run P w) := by simp [resolve, invoke, builtin]
    rw [hrun]
    split at hc
    ·rename_i elem hu
     split at hc
     ·rename_i size hsz
      split at hc
      ·rename_i h0
       obtain rfl := Option.some.inj hc
       have hse1 : Sees ρ w st.h (blk (e d)) := fun k hk => hsee k (by simp [fpOf]; exact .inr hk)
       have hse2 : Sees ρ w st.h (blk (e s)) := fun k hk => hsee k (by simp [fpOf]; exact .inl hk)
       exact copy_ok (d := e d) (s := e s) hu hsz h0 (by simpa only [step, ev] using hs) hdv hsv hse1 hse2
      ·cases hc
     ·cases hc
    ·cases hc
   ·cases hc
  case max =>
   obtain rfl := Option.some.inj hc
   simp only [step, Option.map_eq_some_iff, Prod.mk.injEq, Res.val.injEq] at hs
   obtain ⟨v0, hv0, rfl, rfl⟩ := hs
   obtain ⟨v', h1, h2⟩ := maxmin_ok (P := P) (w := w) (st := st) (aT := argTypes) (ty := o.type) hv0 (LRel.map args.toList hop2)
   have hmap : (args.toList.map e').toArray = args.map e' := by apply Array.ext'; simp
   rw [hmap] at h1
   have hrun : ((do let d ← resolve e' ⟨.builtin .max, args, argTypes⟩ o.type; invoke d.target d.args : Sem Next).run P w) = ((do pure (Next.value (← Builtin.max_ argTypes o.type (args.map e'))) : Sem Next).run P w) := by simp [resolve, invoke, builtin]
   rw [hrun]
   exact hstill (by simpa using h1) h2
  case min =>
   obtain rfl := Option.some.inj hc
   simp only [step, Option.map_eq_some_iff, Prod.mk.injEq, Res.val.injEq] at hs
   obtain ⟨v0, hv0, rfl, rfl⟩ := hs
   obtain ⟨v', h1, h2⟩ := maxmin_ok (P := P) (w := w) (st := st) (aT := argTypes) (ty := o.type) hv0 (LRel.map args.toList hop2)
   have hmap : (args.toList.map e').toArray = args.map e' := by apply Array.ext'; simp
   rw [hmap] at h1
   have hrun : ((do let d ← resolve e' ⟨.builtin .min, args, argTypes⟩ o.type; invoke d.target d.args : Sem Next).run P w) = ((do pure (Next.value (← Builtin.min_ argTypes o.type (args.map e'))) : Sem Next).run P w) := by simp [resolve, invoke, builtin]
   rw [hrun]
   exact hstill (by simpa using h1) h2
  case delete =>
   split at hc
   ·rename_i m k t kT hargs htys
    have hmv := hop2 m (by rw [hargs]; simp)
    have hkv := hop2 k (by rw [hargs]; simp)
    obtain rfl : args = #[m, k] := Array.toList_inj.1 (by simpa using hargs)
    obtain rfl : argTypes = #[t, kT] := Array.toList_inj.1 (by simpa using htys)
    have hrun : ((do let d ← resolve e' ⟨.builtin .delete, #[m, k], #[t, kT]⟩ o.type; invoke d.target d.args : Sem Next).run P w) = ((do pure (Next.value (← Builtin.delete_ #[t, kT] o.type #[e' m, e' k])) : Sem Next).run P w) := by simp [resolve, invoke, builtin]
    rw [hrun]
    split at hc
    ·rename_i key el hu
     simp only [Option.map_eq_some_iff] at hc
     obtain ⟨⟨sh, ag⟩, hk, rfl⟩ := hc
     have hse : Sees ρ w st.h (blk (e m)) := by simpa [fpOf] using hsee
     simp only [step] at hs
     split at hs
     ·rename_i bb hm
      split at hs
      ·rename_i es clock hb
       rw [hm] at hmv hse
       simp only [bind, Option.bind_eq_some_iff, Option.some.injEq, Prod.mk.injEq, Res.val.injEq] at hs
       obtain ⟨f, hf, rfl, rfl⟩ := hs
       have := delete_ok (P := P) (w := w) (aT := kT) (ty := o.type) hu hk hmv hb (hse bb (by simp [blk])) hkv hf
       have hw : (fpOf (ROp.delete sh ag m k) e st).w = [bb] := by simp [fpOf, hm, blk]
       rw [hw]
       cases f <;> exact this
      ·cases hs
     ·cases hs
    ·cases hc
   ·cases hc
end Go.Ai
namespace Go.Ai
open Go.RowKit
variable {P : Program} {ρ : RM} {w : World}
theorem step_pan_inv {r : ROp} {e : Operand → Value} {st st' : St} {v : Value} (h : step r e st = some (.pan v, st')) : ∃ x t y, r = .panic x ∧ e x = .iface t y ∧ v = .iface t y ∧ st' = st := by
 cases r
 case panic x =>
  simp only [step] at h
  split at h
  ·rename_i t y hx
   simp only [Option.some.injEq, Prod.mk.injEq, Res.pan.injEq] at h
   exact ⟨x, t, y, rfl, hx, h.1.symm, h.2.symm⟩
  ·cases h
 case copy =>
  simp only [step] at h
  split at h
  ·simp only [bind, Option.bind_eq_some_iff] at h
   obtain ⟨a, _, h⟩ := h
   (repeat' split at h) <;> simp [bind, Option.bind_eq_some_iff] at h
  ·cases h
 case load n a => cases n <;> simp only [step] at h <;> split at h <;> simp at h
 case lookup => simp only [step] at h; (repeat' split at h) <;> simp [bind, Option.bind_eq_some_iff] at h
 case mapUpd => simp only [step] at h; (repeat' split at h) <;> simp [bind, Option.bind_eq_some_iff] at h
 case mapEntry =>
  simp only [step] at h
  split at h
  ·split at h
   ·simp only [bind, Option.bind_eq_some_iff] at h
    obtain ⟨f, _, h⟩ := h
    cases f <;> simp at h
   ·cases h
  ·cases h
 case buildSlice => simp only [step] at h; split at h <;> simp [bind, Option.bind_eq_some_iff] at h
 all_goals (simp only [step] at h; (repeat' split at h) <;> simp [bind, Option.bind_eq_some_iff] at h)
theorem cop_panic {o : Oper} {x : Operand} (hc : cop P o = some (.panic x)) : o.op = .panic x := by
 unfold cop at hc
 split at hc
 ·cases hc
 cases hop : o.op <;> simp only [hop] at hc
 case panic y =>
  simp only [Option.some.injEq, ROp.panic.injEq] at hc
  rw [hc]
 case call c =>
  obtain ⟨callee, args, argTypes⟩ := c
  cases callee <;> (try simp only at hc)
  case builtin b => cases b <;> (try simp only at hc) <;> (repeat' split at hc) <;> simp at hc
  all_goals (try simp at hc)
 case build => unfold cbuild at hc; (repeat' split at hc) <;> simp at hc
 case binOp => unfold cbin at hc; (repeat' split at hc) <;> simp at hc
 case makeFunc fn a b => cases fn <;> (try simp only at hc) <;> (repeat' split at hc) <;> simp at hc
 case makeMap t r => cases r <;> simp at hc
 case next it b => cases b <;> simp at hc
 case typeAssert a b c d => cases d <;> (try simp only at hc) <;> (repeat' split at hc) <;> simp at hc
 all_goals ((repeat' split at hc) <;> simp at hc)
theorem step_pan {o : Oper} {r : ROp} {e e' : Operand → Value} {st st' : St} {v : Value} (hc : cop P o = some r) (hg : Given ρ o.op e e') (hs : step r e st = some (.pan v, st')) :
  st' = st ∧ ∃ v', (execOp e' o).run P w = .halt (.panic v') w ∧ VRel ρ v v' := by
 obtain ⟨x, t, y, rfl, hx, rfl, rfl⟩ := step_pan_inv hs
 refine ⟨rfl, ?_⟩
 have hop : o.op = .panic x := cop_panic hc
 rw [hop] at hg
 have hxv := hg.rel x (by simp [Op.operands])
 rw [hx] at hxv
 obtain ⟨y', hy, hyv⟩ := hxv.inv_iface
 refine ⟨.iface t y', ?_, .iface hyv⟩
 simp [execOp, hop, hy, Instr.panic, Sem.run_bind, goPanic]
def O.ro : O → Bool
 | .cells _ _ none => true
 | _ => false
theorem O.ro_of_own {o : O} (h : o.own = true) : o.ro = false := by
 cases o with
 | cells c e own => cases own <;> simp_all [O.own, O.ro]
 | _ => rfl
abbrev RoKept (h h' : List O) : Prop := ∀ (id : Nat) (o : O), h'[id]? = some o → o.ro = true → h[id]? = some o
theorem RoKept.refl (h : List O) : RoKept h h := fun _ _ a _ => a
theorem RoKept.set {h : List O} {b : Nat} {x : O} (hx : x.ro = false) : RoKept h (h.set b x) := by
 intro id o ho hro
 by_cases hb : b = id
 ·subst hb
  rw [List.getElem?_set] at ho
  simp at ho
  obtain ⟨_, rfl⟩ := ho
  rw [hx] at hro; cases hro
 ·rwa [List.getElem?_set_ne hb] at ho
theorem RoKept.snoc {h : List O} {x : O} (hx : x.ro = false) : RoKept h (h ++ [x]) := by
 intro id o ho hro
 by_cases hid : id < h.length
 ·rwa [List.getElem?_append_left hid] at ho
 ·rw [List.getElem?_append_right (by omega)] at ho
  have := (List.getElem?_eq_some_iff.1 ho).1
  simp at this
  have e : id - h.length = 0 := by omega
  rw [e] at ho
  simp at ho
  subst ho
  rw [hx] at hro; cases hro
theorem RoKept.trans {a b c : List O} (h : RoKept a b) (k : RoKept b c) : RoKept a c := fun id o ho hr => h id o (k id o ho hr) hr
theorem wrN_ro {h h' : List O} {b i : Nat} {vs : List Value} (hw : wrN h b i vs = some h') : RoKept h h' := by
 unfold wrN at hw
 split at hw
 ·split at hw
  ·obtain rfl := Option.some.inj hw
   exact RoKept.set rfl
  ·cases hw
 ·cases hw
theorem kill_ro {st st' : St} {elem : TypeId} {size : Nat} {base : Option Addr} (h : kill st elem size base = some st') : RoKept st.h st'.h := by
 unfold kill at h
 (repeat' split at h) <;> first
  | (cases h; done)
  | (obtain rfl := Option.some.inj h; exact RoKept.refl _)
  | (obtain rfl := Option.some.inj h; exact RoKept.set rfl)
theorem appendCells_ro {elem : TypeId} {size b sLen sCap n : Nat} {base : Option Addr} {new : List Value} {st st' : St} {v : Value} (ha : appendCells elem size b base sLen sCap n new st = some (v, st')) : RoKept st.h st'.h := by
 unfold appendCells at ha
 split at ha
 ·obtain ⟨rfl, rfl⟩ := Prod.mk.inj (Option.some.inj ha)
  exact RoKept.refl _
 ·split at ha
  ·split at ha
   ·simp only [bind, Option.bind_eq_some_iff, Option.some.injEq, Prod.mk.injEq] at ha
    obtain ⟨h1, hw, rfl, rfl⟩ := ha
    exact wrN_ro hw
   ·cases ha
  ·split at ha
   ·simp only [bind, Option.bind_eq_some_iff, Option.some.injEq, Prod.mk.injEq] at ha
    obtain ⟨old, hold, st1, hkill, rfl, rfl⟩ := ha
    exact (kill_ro hkill).trans (RoKept.snoc rfl)
   ·cases ha
theorem step_ro {r : ROp} {e : Operand → Value} {st st' : St} {v : Value} (h : step r e st = some (.val v, st')) : RoKept st.h st'.h := by
 cases r
 case copy =>
  simp only [step] at h
  split at h
  ·simp only [bind, Option.bind_eq_some_iff] at h
   obtain ⟨a, _, h⟩ := h
   split at h
   ·simp at h; obtain ⟨rfl, rfl⟩ := h; exact RoKept.refl _
   ·split at h
    ·simp only [Option.bind_eq_some_iff, Option.some.injEq, Prod.mk.injEq] at h
     obtain ⟨h1, hw, _, rfl⟩ := h
     exact wrN_ro hw
    ·cases h
  ·cases h
 case store =>
  simp only [step] at h
  split at h
  ·simp only [bind, Option.ite_none_right_eq_some, Option.bind_eq_some_iff, Option.some.injEq, Prod.mk.injEq] at h
   obtain ⟨_, h1, hw, _, rfl⟩ := h
   exact wrN_ro hw
  ·cases h
 case append =>
  simp only [step, Option.map_eq_some_iff, Prod.mk.injEq] at h
  obtain ⟨⟨v0, s0⟩, ha, _, rfl⟩ := h
  unfold appendV at ha
  split at ha
  ·simp only [bind, Option.bind_eq_some_iff] at ha
   obtain ⟨_, _, ha⟩ := ha
   exact appendCells_ro ha
  ·cases ha
 case appendZ =>
  simp only [step, Option.map_eq_some_iff, Prod.mk.injEq] at h
  obtain ⟨⟨v0, s0⟩, ha, _, rfl⟩ := h
  unfold appendZV at ha
  (repeat' split at ha) <;> first
   | (cases ha; done)
   | exact appendCells_ro ha
 case load n a => cases n <;> simp only [step] at h <;> split at h <;> simp at h <;> (obtain ⟨_, _, _, rfl⟩ := h; exact RoKept.refl _)
 case mapUpd =>
  simp only [step] at h
  split at h
  ·split at h
   ·simp only [bind, Option.bind_eq_some_iff, Option.some.injEq, Prod.mk.injEq] at h
    obtain ⟨f, _, _, rfl⟩ := h
    cases f <;> exact RoKept.set rfl
   ·cases h
  ·cases h
 case mapEntry =>
  simp only [step] at h
  split at h
  ·split at h
   ·simp only [bind, Option.bind_eq_some_iff] at h
    obtain ⟨f, _, h⟩ := h
    cases f <;> simp at h <;> obtain ⟨_, rfl⟩ := h
    ·exact RoKept.set rfl
    ·exact RoKept.refl _
   ·cases h
  ·cases h
 case delete =>
  simp only [step] at h
  split at h
  ·split at h
   ·simp only [bind, Option.bind_eq_some_iff, Option.some.injEq, Prod.mk.injEq] at h
    obtain ⟨f, _, _, rfl⟩ := h
    exact RoKept.set rfl
   ·cases h
  ·cases h
 case next =>
  simp only [step] at h
  split at h
  ·simp at h; obtain ⟨_, rfl⟩ := h; exact RoKept.set rfl
  ·simp at h; obtain ⟨_, rfl⟩ := h; exact RoKept.set rfl
  ·cases h
 case eqNil =>
  simp only [step, Option.map_eq_some_iff, Prod.mk.injEq] at h
  obtain ⟨_, _, _, rfl⟩ := h
  exact RoKept.refl _
 case buildSlice =>
  simp only [step] at h
  split at h
  ·simp at h; obtain ⟨_, rfl⟩ := h; exact RoKept.refl _
  ·simp [bind, Option.bind_eq_some_iff] at h
   obtain ⟨_, _, _, rfl⟩ := h
   exact RoKept.snoc rfl
 all_goals
  simp only [step] at h
  (repeat' split at h) <;> simp [bind, Option.bind_eq_some_iff] at h
  all_goals first
   | (obtain ⟨_, rfl⟩ := h; first | exact RoKept.refl _ | exact RoKept.snoc rfl | exact RoKept.set rfl)
   | (obtain ⟨_, _, rfl⟩ := h; first | exact RoKept.refl _ | exact RoKept.snoc rfl | exact RoKept.set rfl)
   | (obtain ⟨_, _, _, rfl⟩ := h; first | exact RoKept.refl _ | exact RoKept.snoc rfl | exact RoKept.set rfl)
   | (obtain ⟨_, _, _, _, rfl⟩ := h; first | exact RoKept.refl _ | exact RoKept.snoc rfl | exact RoKept.set rfl)
   | (obtain ⟨_, _, _, _, _, rfl⟩ := h; first | exact RoKept.refl _ | exact RoKept.snoc rfl | exact RoKept.set rfl)
end Go.Ai
namespace Go.Ai
open Go.RowKit
variable {P : Program} {ρ ρ' : RM} {w w' : World}
def hp (h : List O) : Nat → O := fun id => h.getD id .dead
theorem hp_some {h : List O} {id : Nat} {o : O} (ho : h[id]? = some o) : hp h id = o := by simp [hp, List.getD, ho]
theorem hp_none {h : List O} {id : Nat} (ho : h.length ≤ id) : hp h id = .dead := by simp [hp, List.getD, List.getElem?_eq_none ho]
theorem hp_lt {h : List O} {id : Nat} (hid : id < h.length) : h[id]? = some (hp h id) := by simp [hp, List.getD, hid]
structure WRel (B : Nat) (ρ : RM) (w : World) (H : Nat → O) : Prop where
 base : B ≤ w.heap.size
 rel : ∀ id l, ρ id = some l → CRel ρ w l (H id)
 ro : ∀ id l, ρ id = some l → (H id).ro = true → l.b < B
 own : ∀ id l, ρ id = some l → (H id).ro = false → B ≤ l.b ∧ l.b < w.heap.size
 sep : ∀ (i j : Nat) li lj, i < j → ρ i = some li → ρ j = some lj → li.b = lj.b → B ≤ li.b → H i = .dead
theorem live_of_own {o : O} (h : o.own = true) : o ≠ .dead := by intro e; subst e; simp [O.own] at h
def touched (h h' : List O) (ws : List Nat) (H : Nat → O) : Nat → O := fun id => if id ∈ ws ∨ (h.length ≤ id ∧ id < h'.length) then hp h' id else H id
theorem WRel.step {B : Nat} {H : Nat → O} {h h' : List O} {ws : List Nat} (hW : WRel B ρ w H) (he : Eff ρ ρ' w w' h h' ws) (hws : ∀ k ∈ ws, ∃ o, h[k]? = some o ∧ o.own = true) (hH : ∀ k ∈ ws, H k = hp h k) (hk : ∀ k ∈ ws, ∃ l, ρ k = some l)
  (hlen : h'.length ≤ h.length + 1) (hnew : ∀ id, h.length ≤ id → ∀ o, h'[id]? = some o → o.own = true) (hro : RoKept h h') :
  WRel B ρ' w' (touched h h' ws H) := by
 have hlt : ∀ k ∈ ws, k < h.length := fun k hk => (List.getElem?_eq_some_iff.1 (hws k hk).choose_spec.1).1
 have hHo : ∀ k ∈ ws, (H k).own = true := fun k hk => by
  obtain ⟨o, ho, hown⟩ := hws k hk
  rw [hH k hk, hp_some ho]; exact hown
 -- an id of old that was not touched
 have hold : ∀ id l, ρ' id = some l → ¬ (id ∈ ws ∨ (h.length ≤ id ∧ id < h'.length)) → ρ id = some l := fun id l hl hn => by
  rcases he.dom id l hl with h1 | h1
  ·exact h1
  ·exact absurd (Or.inr h1) hn
 have hwl : ∀ id l, id ∈ ws → ρ' id = some l → ρ id = some l := fun id l hid hl => by
  rcases he.dom id l hl with h1 | h1
  ·exact h1
  ·have := hlt id hid; omega
 have hnewl : ∀ id l, h.length ≤ id → id < h'.length → ρ' id = some l → ∃ o, h'[id]? = some o ∧ CRel ρ' w' l o ∧ (w.heap.size ≤ l.b ∨ ∃ k ∈ ws, ∃ lk, ρ k = some lk ∧ lk.b = l.b ∧ h'[k]? = some .dead) := fun id l h1 h2 hl => by
  obtain ⟨l', o, k1, k2, k3, k4⟩ := he.new id h1 h2
  obtain rfl : l = l' := Option.some.inj (hl.symm.trans k1)
  exact ⟨o, k2, k3, k4⟩
 have hnewB : ∀ id l, h.length ≤ id → id < h'.length → ρ' id = some l → B ≤ l.b ∧ l.b < w'.heap.size := fun id l h1 h2 hl => by
  obtain ⟨o, k2, k3, k4⟩ := hnewl id l h1 h2 hl
  have hown := hnew id h1 o k2
  refine ⟨?_, k3.lt ?_⟩
  ·rcases k4 with k4 | ⟨k, hk, lk, q1, q2, q3⟩
   ·exact Nat.le_trans hW.base k4
   ·rw [← q2]; exact (hW.own k lk q1 (O.ro_of_own (hHo k hk))).1
  ·cases o with
   | dead => simp [O.own] at hown
   | _ => rfl
 refine ⟨Nat.le_trans hW.base he.size, ?_, ?_, ?_, ?_⟩
 ·intro id l hl
  unfold touched
  split
  ·rename_i ht
   rcases ht with ht | ht
   ·have hl0 := hwl id l ht hl
    exact he.old id ht l _ hl0 (hp_lt (Nat.lt_of_lt_of_le (hlt id ht) he.len))
   ·obtain ⟨o, k2, k3, _⟩ := hnewl id l ht.1 ht.2 hl
    rw [hp_some k2]; exact k3
  ·rename_i ht
   have hl0 := hold id l hl ht
   have hc := hW.rel id l hl0
   by_cases hd : H id = .dead
   ·rw [hd]; trivial
   refine (hc.same ?_).mono he.le
   have hne : ∀ k ∈ ws, ∀ lk, ρ k = some lk → lk.b ≠ l.b := fun k hk lk hlk e => by
    have hkB := hW.own k lk hlk (O.ro_of_own (hHo k hk))
    have hik : id ≠ k := fun e => ht (.inl (e ▸ hk))
    rcases Nat.lt_or_gt_of_ne hik with h1 | h1
    ·exact hd (hW.sep id k l lk h1 hl0 hlk e.symm (e ▸ hkB.1))
    ·exact live_of_own (hHo k hk) (hW.sep k id lk l h1 hlk hl0 e hkB.1)
   by_cases hr : (H id).ro = true
   ·exact he.keep l.b (Nat.lt_of_lt_of_le (hW.ro id l hl0 hr) hW.base) hne
   ·exact he.keep l.b (hW.own id l hl0 (by simpa using hr)).2 hne
 ·intro id l hl hr
  unfold touched at hr
  split at hr
  ·rename_i ht
   exfalso
   rcases ht with ht | ht
   ·have hx := hp_lt (Nat.lt_of_lt_of_le (hlt id ht) he.len)
    have := hro id _ hx hr
    obtain ⟨o, ho, hown⟩ := hws id ht
    rw [ho] at this
    obtain rfl := Option.some.inj this
    rw [O.ro_of_own hown] at hr; cases hr
   ·have := hnew id ht.1 _ (hp_lt ht.2)
    rw [O.ro_of_own this] at hr; cases hr
  ·rename_i ht
   exact hW.ro id l (hold id l hl ht) hr
 ·intro id l hl hr
  unfold touched at hr
  split at hr
  ·rename_i ht
   rcases ht with ht | ht
   ·have := hW.own id l (hwl id l ht hl) (O.ro_of_own (hHo id ht))
    exact ⟨this.1, Nat.lt_of_lt_of_le this.2 he.size⟩
   ·exact hnewB id l ht.1 ht.2 hl
  ·rename_i ht
   have := hW.own id l (hold id l hl ht) hr
   exact ⟨this.1, Nat.lt_of_lt_of_le this.2 he.size⟩
 ·intro i j li lj hij hli hlj hb hB
  -- whether they are of old
  have cls : ∀ id l, ρ' id = some l → ρ id = some l ∨ (h.length ≤ id ∧ id < h'.length) := fun id l hl => he.dom id l hl
  have hnn : ∀ id l, ρ' id = some l → (h.length ≤ id ∧ id < h'.length) → id = h.length := fun id l _ hx => by omega
  have deadOld : ∀ id, H id = .dead → ¬ (h.length ≤ id ∧ id < h'.length) → touched h h' ws H id = .dead := fun id hd hn => by
   unfold touched
   split
   ·rename_i ht
    rcases ht with ht | ht
    ·exact absurd hd (live_of_own (hHo id ht))
    ·exact absurd ht hn
   ·exact hd
  have hnoti : ¬ (h.length ≤ i ∧ i < h'.length) := fun hx => by
   have := hnn i li hli hx
   subst this
   rcases cls j lj hlj with h1 | h1
   ·-- an id of old that is greater than the new one: it is in the range only if it is new
    exfalso
    obtain ⟨o, k2, k3, k4⟩ := hnewl _ li hx.1 hx.2 hli
    have hjlt : lj.b < w.heap.size := by
     by_cases hr : (H j).ro = true
     ·exact Nat.lt_of_lt_of_le (hW.ro j lj h1 hr) hW.base
     ·exact (hW.own j lj h1 (by simpa using hr)).2
    rcases k4 with k4 | ⟨k, hk, lk, q1, q2, q3⟩
    ·omega
    ·exact live_of_own (hHo k hk) (hW.sep k j lk lj (Nat.lt_trans (hlt k hk) hij) q1 h1 (by rw [q2, hb]) (by rw [q2]; exact hB))
   ·omega
  have hli0 : ρ i = some li := by
   rcases cls i li hli with h1 | h1
   ·exact h1
   ·exact absurd h1 hnoti
  rcases cls j lj hlj with h1 | h1
  ·exact deadOld i (hW.sep i j li lj hij hli0 h1 hb hB) hnoti
  ·obtain ⟨o, k2, k3, k4⟩ := hnewl j lj h1.1 h1.2 hlj
   rcases k4 with k4 | ⟨k, hk, lk, q1, q2, q3⟩
   ·exfalso
    have : li.b < w.heap.size := by
     by_cases hr : (H i).ro = true
     ·exact Nat.lt_of_lt_of_le (hW.ro i li hli0 hr) hW.base
     ·exact (hW.own i li hli0 (by simpa using hr)).2
    omega
   ·by_cases hik : i = k
    ·subst hik
     unfold touched
     rw [if_pos (.inl hk), hp_some q3]
    ·rcases Nat.lt_or_gt_of_ne hik with h2 | h2
     ·exact deadOld i (hW.sep i k li lk h2 hli0 q1 (by rw [hb, q2]) hB) hnoti
     ·exact absurd (hW.sep k i lk li h2 q1 hli0 (by rw [hb, q2]) (by rw [q2, ← hb]; exact hB)) (live_of_own (hHo k hk))
theorem touched_hp {h h' : List O} {ws : List Nat} (he : Eff ρ ρ' w w' h h' ws) (hws : ∀ k ∈ ws, ∃ o, h[k]? = some o ∧ o.own = true) : touched h h' ws (hp h) = hp h' := by
 funext id
 unfold touched
 split
 ·rfl
 ·rename_i hn
  simp only [not_or, not_and, Nat.not_lt] at hn
  by_cases hid : id < h.length
  ·have := he.same id hid hn.1
   simp [hp, List.getD, this]
  ·rw [hp_none (Nat.not_lt.1 hid), hp_none (hn.2 (Nat.not_lt.1 hid))]
structure RanW (B : Nat) (ρ ρ' : RM) (w w' : World) (st st' : St) : Prop where
 le : ρ.le ρ'
 os : w'.os = w.os
 tape : w'.tape = w.tape
 output : w'.output = w.output
 size : w.heap.size ≤ w'.heap.size
 below : ∀ k, k < B → w'.heap[k]? = w.heap[k]?
 keep : ∀ k, k < w.heap.size → (∀ id l, ρ id = some l → l.b = k → id < st'.fl) → w'.heap[k]? = w.heap[k]?
 fl : st'.fl ≤ st.fl
 len : st.h.length ≤ st'.h.length
 place : ∀ id l, ρ' id = some l → ρ id = none → id < st'.h.length ∧ (w.heap.size ≤ l.b ∨ ∃ k lk, ρ k = some lk ∧ lk.b = l.b ∧ st'.fl ≤ k)
theorem RanW.refl (B : Nat) (ρ : RM) (w : World) (st : St) : RanW B ρ ρ w w st st :=
 ⟨RM.le_refl ρ, rfl, rfl, rfl, Nat.le_refl _, fun _ _ => rfl, fun _ _ _ => rfl, Nat.le_refl _, Nat.le_refl _, fun id l h k => by rw [h] at k; cases k⟩
theorem RanW.trans {B : Nat} {ρ₀ ρ₁ ρ₂ : RM} {w₀ w₁ w₂ : World} {s₀ s₁ s₂ : St} (h : RanW B ρ₀ ρ₁ w₀ w₁ s₀ s₁) (k : RanW B ρ₁ ρ₂ w₁ w₂ s₁ s₂) : RanW B ρ₀ ρ₂ w₀ w₂ s₀ s₂ := by
 refine ⟨RM.le_trans h.le k.le, k.os.trans h.os, k.tape.trans h.tape, k.output.trans h.output, Nat.le_trans h.size k.size, fun i hi => (k.below i hi).trans (h.below i hi), ?_, Nat.le_trans k.fl h.fl, Nat.le_trans h.len k.len, ?_⟩
 ·intro b hb hid
  rw [k.keep b (Nat.lt_of_lt_of_le hb h.size) ?_, h.keep b hb fun id l a c => Nat.lt_of_lt_of_le (hid id l a c) k.fl]
  intro id l hl hlb
  cases h0 : ρ₀ id with
  | some l0 =>
   have := h.le id l0 h0
   obtain rfl : l = l0 := Option.some.inj (hl.symm.trans this)
   exact hid id l h0 hlb
  | none =>
   obtain ⟨_, h1 | ⟨i, li, q1, q2, q3⟩⟩ := h.place id l hl h0
   ·omega
   ·have := hid i li q1 (q2.trans hlb)
    have := k.fl
    omega
 ·intro id l hl h0
  cases h1 : ρ₁ id with
  | some l1 =>
   obtain rfl : l = l1 := Option.some.inj (hl.symm.trans (k.le id l1 h1))
   obtain ⟨b, c⟩ := h.place id l h1 h0
   refine ⟨Nat.lt_of_lt_of_le b k.len, ?_⟩
   rcases c with c | ⟨i, li, q1, q2, q3⟩
   ·exact .inl c
   ·exact .inr ⟨i, li, q1, q2, Nat.le_trans k.fl q3⟩
  | none =>
   obtain ⟨b, c⟩ := k.place id l hl h1
   refine ⟨b, ?_⟩
   rcases c with c | ⟨i, li, q1, q2, q3⟩
   ·exact .inl (Nat.le_trans h.size c)
   ·cases h2 : ρ₀ i with
    | some li0 =>
     obtain rfl : li = li0 := Option.some.inj (q1.symm.trans (h.le i li0 h2))
     exact .inr ⟨i, li, h2, q2, q3⟩
    | none =>
     obtain ⟨_, d⟩ := h.place i li q1 h2
     rcases d with d | ⟨j, lj, r1, r2, r3⟩
     ·exact .inl (q2 ▸ d)
     ·exact .inr ⟨j, lj, r1, r2.trans q2, Nat.le_trans k.fl r3⟩
theorem RanW.of_step {B : Nat} {H : Nat → O} {st st' : St} {ws : List Nat} (hW : WRel B ρ w H) (he : Eff ρ ρ' w w' st.h st'.h ws) (hown : ∀ k ∈ ws, (H k).own = true) (hfl : ∀ k ∈ ws, st'.fl ≤ k) (hle : st'.fl ≤ st.fl) : RanW B ρ ρ' w w' st st' := by
 refine ⟨he.le, he.os, he.tape, he.output, he.size, ?_, ?_, hle, he.len, ?_⟩
 ·intro k hk
  refine he.keep k (Nat.lt_of_lt_of_le hk hW.base) fun id hid l hl e => ?_
  have := (hW.own id l hl (O.ro_of_own (hown id hid))).1
  omega
 ·intro k hk hid
  refine he.keep k hk fun id hi l hl e => ?_
  have := hid id l hl e
  have := hfl id hi
  omega
 ·intro id l hl h0
  rcases he.dom id l hl with h1 | h1
  ·rw [h0] at h1; cases h1
  ·refine ⟨h1.2, ?_⟩
   obtain ⟨l', o, k1, k2, k3, k4⟩ := he.new id h1.1 h1.2
   obtain rfl : l = l' := Option.some.inj (hl.symm.trans k1)
   rcases k4 with k4 | ⟨k, hk, lk, q1, q2, q3⟩
   ·exact .inl k4
   ·exact .inr ⟨k, lk, q1, q2, hfl k hk⟩
theorem RanW.weaken {B : Nat} {s₀ s₁ s : St} (h : RanW B ρ ρ' w w' s₀ s₁) (h1 : s.fl ≤ s₁.fl) (h2 : s₁.h.length ≤ s.h.length) : RanW B ρ ρ' w w' s s :=
 ⟨h.le, h.os, h.tape, h.output, h.size, h.below, fun k hk hid => h.keep k hk fun id l a b => Nat.lt_of_lt_of_le (hid id l a b) h1, Nat.le_refl _, Nat.le_refl _, fun id l a b => by
  obtain ⟨c, d⟩ := h.place id l a b
  refine ⟨Nat.lt_of_lt_of_le c h2, ?_⟩
  rcases d with d | ⟨k, lk, q1, q2, q3⟩
  ·exact .inl d
  ·exact .inr ⟨k, lk, q1, q2, Nat.le_trans h1 q3⟩⟩
structure Ran (B : Nat) (ρ ρ' : RM) (w w' : World) (st st' : St) : Prop extends RanW B ρ ρ' w w' st st' where
 fresh : ∀ id l, ρ' id = some l → ρ id = none → st.h.length ≤ id
theorem Ran.refl (B : Nat) (ρ : RM) (w : World) (st : St) : Ran B ρ ρ w w st st := ⟨RanW.refl B ρ w st, fun id l h k => by rw [h] at k; cases k⟩
theorem Ran.trans {B : Nat} {ρ₀ ρ₁ ρ₂ : RM} {w₀ w₁ w₂ : World} {s₀ s₁ s₂ : St} (h : Ran B ρ₀ ρ₁ w₀ w₁ s₀ s₁) (k : Ran B ρ₁ ρ₂ w₁ w₂ s₁ s₂) : Ran B ρ₀ ρ₂ w₀ w₂ s₀ s₂ := by
 refine ⟨h.toRanW.trans k.toRanW, fun id l a b => ?_⟩
 cases h1 : ρ₁ id with
 | none => exact Nat.le_trans h.len (k.fresh id l a h1)
 | some l1 => exact h.fresh id l1 h1 b
theorem Ran.of_step {B : Nat} {H : Nat → O} {st st' : St} {ws : List Nat} (hW : WRel B ρ w H) (he : Eff ρ ρ' w w' st.h st'.h ws) (hown : ∀ k ∈ ws, (H k).own = true) (hfl : ∀ k ∈ ws, st'.fl ≤ k) (hle : st'.fl ≤ st.fl) : Ran B ρ ρ' w w' st st' :=
 ⟨RanW.of_step hW he hown hfl hle, fun id l a b => by
  rcases he.dom id l a with h1 | h1
  ·rw [b] at h1; cases h1
  ·exact h1.1⟩
abbrev Full (ρ : RM) (h : List O) : Prop := ∀ id l, ρ id = some l → id < h.length
theorem Full.dom {h : List O} (hf : Full ρ h) : Dom ρ h := by
 show ρ h.length = none
 cases hx : ρ h.length with
 | none => rfl
 | some l => exact absurd (hf _ _ hx) (Nat.lt_irrefl _)
theorem Full.ran {B : Nat} {st st' : St} (hf : Full ρ st.h) (hr : Ran B ρ ρ' w w' st st') : Full ρ' st'.h := fun id l hl => by
 cases h0 : ρ id with
 | some l0 => exact Nat.lt_of_lt_of_le (hf id l0 h0) hr.len
 | none => exact (hr.place id l hl h0).1
structure SRel (B : Nat) (ρ : RM) (w : World) (st : St) : Prop where
 mem : WRel B ρ w (hp st.h)
 full : Full ρ st.h
theorem SRel.back {B : Nat} {st st' : St} (hS : SRel B ρ w st) (hr : Ran B ρ ρ' w w' { st with fl := st.h.length } st') (hq : st.h.length ≤ st'.fl) : SRel B ρ w' st ∧ Ran B ρ ρ w w' st st := by
 have hall : ∀ k, k < w.heap.size → w'.heap[k]? = w.heap[k]? := fun k hk => hr.keep k hk fun id l hl _ => Nat.lt_of_lt_of_le (hS.full id l hl) hq
 refine ⟨⟨⟨Nat.le_trans hS.mem.base hr.size, ?_, hS.mem.ro, ?_, hS.mem.sep⟩, hS.full⟩, ⟨⟨RM.le_refl ρ, hr.os, hr.tape, hr.output, hr.size, hr.below, fun k hk _ => hall k hk, Nat.le_refl _, Nat.le_refl _, fun id l h k => by rw [h] at k; cases k⟩, fun id l h k => by rw [h] at k; cases k⟩⟩
 ·intro id l hl
  refine (hS.mem.rel id l hl).same (hall l.b ?_)
  by_cases h : (hp st.h id).ro = true
  ·exact Nat.lt_of_lt_of_le (hS.mem.ro id l hl h) hS.mem.base
  ·exact (hS.mem.own id l hl (by simpa using h)).2
 ·intro id l hl h
  exact ⟨(hS.mem.own id l hl h).1, Nat.lt_of_lt_of_le (hS.mem.own id l hl h).2 hr.size⟩
theorem Ran.joined {B : Nat} {st st' : St} (hf : Full ρ st.h) (hr : Ran B ρ ρ' w w' { st with fl := st.h.length } st') : Ran B ρ ρ' w w' st (Ai.joined st st') := by
 have hcase : (Ai.joined st st').fl ≤ st'.fl ∨ st.h.length ≤ st'.fl := by
  unfold Ai.joined
  by_cases h : st'.fl < st.h.length
  ·left; simp only [h, if_true]; exact Nat.min_le_right _ _
  ·right; omega
 refine ⟨⟨hr.le, hr.os, hr.tape, hr.output, hr.size, hr.below, ?_, ?_, hr.len, ?_⟩, hr.fresh⟩
 ·intro k hk hid
  refine hr.keep k hk fun id l hl e => ?_
  rcases hcase with h | h
  ·exact Nat.lt_of_lt_of_le (hid id l hl e) h
  ·exact Nat.lt_of_lt_of_le (hf id l hl) h
 ·unfold Ai.joined
  by_cases h : st'.fl < st.h.length
  ·simp only [h, if_true]; exact Nat.min_le_left _ _
  ·simp only [h, if_false]; exact Nat.le_refl _
 ·intro id l hl h0
  obtain ⟨b, c⟩ := hr.place id l hl h0
  refine ⟨b, ?_⟩
  rcases c with c | ⟨k, lk, q1, q2, q3⟩
  ·exact .inl c
  ·rcases hcase with h | h
   ·exact .inr ⟨k, lk, q1, q2, Nat.le_trans h q3⟩
   ·have := hf k lk q1; omega
end Go.Ai
namespace Go.Ai
open Go.RowKit
abbrev CallP := FuncId → List Value → St → (Out → St → Prop) → Prop
def runL (call : CallP) : List ROper → Fr → St → (Ex → Fr → St → Prop) → Prop
 | [], fr, st, Q => Q .normal fr st
 | o :: os, fr, st, Q =>
  if wanted fr o.guard then
   match o.op with
   | .call f args => match target (ev fr f) (args.map (ev fr)) with
    | some (g, vs) => call g vs { st with fl := st.h.length } fun out st' => match out with
     | .ret v => runL call os (putD fr o.dst v) (joined st st') Q
     | .pan v => Q (.pan v) fr (joined st st')
    | none => False
   | .next it => match nextC (ev fr it) st with
    | some (r, b, since, seen, l) => (l = [] → runL call os (putD fr o.dst nextOver) (nextEnd r st) Q) ∧ ∀ en ∈ l, runL call os (putD fr o.dst (nextTo r b since seen en st).1) (nextTo r b since seen en st).2 Q
    | none => False
   | op => match step op (ev fr) st with
    | some (.val v, st') => runL call os (putD fr o.dst v) st' Q
    | some (.pan v, st') => Q (.pan v) fr st'
    | none => False
  else runL call os (putD fr o.dst undef) st Q
def endP (rf : RFun) (st : St) (Q : Out → St → Prop) : Ex → Fr → St → Prop
 | .normal, fr, st' | .ret, fr, st' => ∃ v, resV fr st'.h rf.res = some v ∧ Q (back st (.ret v) st').1 (back st (.ret v) st').2
 | .pan v, _, st' => Q (back st (.pan v) st').1 (back st (.pan v) st').2
 | .exit _, _, _ => False
def callPY (E : Env) (X : R → Fr → St → (Ex → Fr → St → Prop) → Prop) (k : Nat) (args : List Value) (st : St) (Q : Out → St → Prop) : Prop :=
 match st.h[k]? with
 | some (.loop _ nt fr ps as bd) => args.length = ps.length ∧
  match E.cmp nt as, E.cmp nt bd with
  | some ra, some rb => X ra (putAll fr ps args) st fun e fr1 st1 => e = .normal ∧ ∃ st2, turn false k st1 = some st2 ∧
    X rb fr1 st2 fun e' _ st3 => e' = .normal ∧ ∃ st4, turn true k st3 = some st4 ∧ Q (.ret (.bool true)) st4
  | _, _ => False
 | _ => False
def callPOf (E : Env) (X : R → Fr → St → (Ex → Fr → St → Prop) → Prop) : CallP := fun f args st Q =>
 if yB ≤ f then callPY E X (f - yB) args st Q else
 match E.F f with
 | none => False
 | some rf => X rf.body args st (endP rf st Q)
def callPSig (S : FuncId → Option (List Value → St → Option (Out × St))) (c : CallP) : CallP := fun f args st Q =>
 match S f with
 | some s => match s args st with
  | some (o, st') => Q o st'
  | none => False
 | none => c f args st Q
def runP (E : Env) : Nat → R → Fr → St → (Ex → Fr → St → Prop) → Prop
 | 0, _, _, _, _ => False
 | _ + 1, .skip, fr, st, Q => Q .normal fr st
 | n + 1, .seq a b, fr, st, Q => runP E n a fr st fun e fr' st' => match e with
  | .normal => runP E n b fr' st' Q
  | e => Q e fr' st'
 | n + 1, .cond c t e, fr, st, Q =>
  match ev fr c with
  | .bool b => if b then runP E n t fr st Q else runP E n e fr st Q
  | _ => False
 | n + 1, .block id b, fr, st, Q => runP E n b fr st fun e fr' st' => match e with
  | .exit id' => if id' = id then Q .normal fr' st' else Q (.exit id') fr' st'
  | e => Q e fr' st'
 | n + 1, .loop b, fr, st, Q => runP E n b fr st fun e fr' st' => match e with
  | .normal => runP E n (.loop b) fr' st' Q
  | e => Q e fr' st'
 | _ + 1, .exit id, fr, st, Q => Q (.exit id) fr st
 | _ + 1, .ret, fr, st, Q => Q .ret fr st
 | n + 1, .rangeF g ps nt as bd, fr, st, Q =>
  match target (ev fr g) [tok st.h.length] with
  | some (f, vs) => f < yB ∧ callPSig E.S (callPOf E (runP E n)) f vs { looped nt fr ps as bd st with fl := st.h.length + 1 } fun out st2 =>
    match out with
    | .ret _ => ∃ st3, over st.h.length (joined (looped nt fr ps as bd st) st2) = some st3 ∧ Q .normal fr st3
    | .pan _ => False
  | none => False
 | n + 1, .ops false l, fr, st, Q => runL (callPSig E.S (callPOf E (runP E n))) l fr st Q
 | n + 1, .ops true l, fr, st, Q => match runOpsD (callSig E.S (callOf E (exec E n))) 0 [] l fr st with
  | some (e, fr', st') => Q e fr' st'
  | none => False
def callP (E : Env) (n : Nat) : CallP := callPSig E.S (callPOf E (runP E n))
theorem runL_of {call : CallF} {cp : CallP} (hcall : ∀ f args st o st' (Q : Out → St → Prop), call f args st = some (o, st') → Q o st' → cp f args st Q) :
  ∀ (l : List ROper) (fr : Fr) (st : St) (Q : Ex → Fr → St → Prop) e fr' st', runOps call l fr st = some (e, fr', st') → Q e fr' st' → runL cp l fr st Q := by
 intro l
 induction l with
 | nil =>
  intro fr st Q e fr' st' h hq
  simp only [runOps, Option.some.injEq, Prod.mk.injEq] at h
  obtain ⟨rfl, rfl, rfl⟩ := h
  exact hq
 | cons o os ih =>
  intro fr st Q e fr' st' h hq
  simp only [runOps] at h
  simp only [runL]
  split at h
  ·rename_i hw
   rw [if_pos hw]
   cases hop : o.op <;> simp only [hop] at h ⊢
   case call f args =>
    unfold doCall at h
    split at h
    ·rename_i v st1 hc
     split at hc
     ·rename_i g vs ht
      rw [ht]
      exact hcall _ _ _ _ _ _ hc (ih _ _ _ _ _ _ h hq)
     ·cases hc
    ·rename_i v st1 hc
     split at hc
     ·rename_i g vs ht
      rw [ht]
      simp only [Option.some.injEq, Prod.mk.injEq] at h
      obtain ⟨rfl, rfl, rfl⟩ := h
      exact hcall _ _ _ _ _ _ hc hq
     ·cases hc
    ·cases h
   case next it =>
    simp only [step] at h
    split at h
    ·rename_i v st1 hs
     split at hs
     ·rename_i r b since seen hn
      rw [hn]
      simp only [Option.some.injEq, Prod.mk.injEq, Res.val.injEq] at hs
      obtain ⟨rfl, rfl⟩ := hs
      exact ⟨fun _ => ih _ _ _ _ _ _ h hq, fun en hen => by simp at hen⟩
     ·rename_i r b since seen en hn
      rw [hn]
      simp only [Option.some.injEq, Prod.mk.injEq, Res.val.injEq] at hs
      obtain ⟨rfl, rfl⟩ := hs
      refine ⟨fun hx => by simp at hx, fun en' hen => ?_⟩
      simp at hen
      subst hen
      exact ih _ _ _ _ _ _ h hq
     ·cases hs
    ·rename_i v st1 hs
     split at hs <;> simp at hs
    ·cases h
   all_goals
    split at h
    ·rename_i v st1 hs
     rw [hs]
     exact ih _ _ _ _ _ _ h hq
    ·rename_i v st1 hs
     rw [hs]
     simp only [Option.some.injEq, Prod.mk.injEq] at h
     obtain ⟨rfl, rfl, rfl⟩ := h
     exact hq
    ·cases h
  ·rename_i hw
   rw [if_neg hw]
   exact ih _ _ _ _ _ _ h hq
theorem callPY_of {E : Env} {X : R → Fr → St → Option (Ex × Fr × St)} {Y : R → Fr → St → (Ex → Fr → St → Prop) → Prop}
  (ih : ∀ (r : R) (fr : Fr) (st : St) (Q : Ex → Fr → St → Prop) e fr' st', X r fr st = some (e, fr', st') → Q e fr' st' → Y r fr st Q)
  {k : Nat} {args : List Value} {s s' : St} {o : Out} {Q : Out → St → Prop} (hc : callY E X k args s = some (o, s')) (hqq : Q o s') : callPY E Y k args s Q := by
 unfold callY at hc
 unfold callPY
 split at hc
 ·rename_i hk
  rw [hk]
  split at hc
  ·rename_i hl
   refine ⟨hl, ?_⟩
   split at hc
   ·rename_i ra rb ha hb
    simp only [ha, hb]
    split at hc
    ·rename_i fr1 st1 h1
     split at hc
     ·rename_i st2 h2
      split at hc
      ·rename_i fr3 st3 h3
       simp only [Option.map_eq_some_iff, Prod.mk.injEq] at hc
       obtain ⟨st4, h4, rfl, rfl⟩ := hc
       exact ih _ _ _ _ _ _ _ h1 ⟨rfl, st2, h2, ih _ _ _ _ _ _ _ h3 ⟨rfl, st4, h4, hqq⟩⟩
      ·cases hc
     ·cases hc
    ·cases hc
   ·cases hc
  ·cases hc
 ·cases hc
theorem sig_of {E : Env} {X : R → Fr → St → Option (Ex × Fr × St)} {Y : R → Fr → St → (Ex → Fr → St → Prop) → Prop}
  (ih : ∀ (r : R) (fr : Fr) (st : St) (Q : Ex → Fr → St → Prop) e fr' st', X r fr st = some (e, fr', st') → Q e fr' st' → Y r fr st Q)
  {f : FuncId} {args : List Value} {s s' : St} {o : Out} {Q : Out → St → Prop} (hc : callSig E.S (callOf E X) f args s = some (o, s')) (hqq : Q o s') : callPSig E.S (callPOf E Y) f args s Q := by
 unfold callSig at hc
 unfold callPSig
 split at hc
 ·rename_i sm hsm
  rw [hsm]
  show (match sm args s with | some (o, st') => Q o st' | none => False)
  rw [hc]
  exact hqq
 ·rename_i hsm
  rw [hsm]
  unfold callOf at hc
  unfold callPOf
  split at hc
  ·rename_i hy
   rw [if_pos hy]
   exact callPY_of ih hc hqq
  rename_i hy
  rw [if_neg hy]
  split at hc
  ·cases hc
  ·rename_i rf hrf
   rw [hrf]
   split at hc
   ·rename_i fr1 st1 h1
    simp only [Option.map_eq_some_iff] at hc
    obtain ⟨v, hv, hb⟩ := hc
    refine ih _ _ _ _ _ _ _ h1 ⟨v, hv, ?_⟩
    rw [hb]; exact hqq
   ·rename_i fr1 st1 h1
    simp only [Option.map_eq_some_iff] at hc
    obtain ⟨v, hv, hb⟩ := hc
    refine ih _ _ _ _ _ _ _ h1 ⟨v, hv, ?_⟩
    rw [hb]; exact hqq
   ·rename_i v fr1 st1 h1
    refine ih _ _ _ _ _ _ _ h1 ?_
    simp only [Option.some.injEq] at hc
    simp only [endP]
    rw [hc]; exact hqq
   ·cases hc
theorem runP_of {E : Env} : ∀ (n : Nat) (r : R) (fr : Fr) (st : St) (Q : Ex → Fr → St → Prop) e fr' st', exec E n r fr st = some (e, fr', st') → Q e fr' st' → runP E n r fr st Q := by
 intro n
 induction n with
 | zero => intro r fr st Q e fr' st' h; simp [exec] at h
 | succ n ih =>
  intro r fr st Q e fr' st' h hq
  cases r with
  | skip => simp only [exec, Option.some.injEq, Prod.mk.injEq] at h; obtain ⟨rfl, rfl, rfl⟩ := h; exact hq
  | exit id => simp only [exec, Option.some.injEq, Prod.mk.injEq] at h; obtain ⟨rfl, rfl, rfl⟩ := h; exact hq
  | ret => simp only [exec, Option.some.injEq, Prod.mk.injEq] at h; obtain ⟨rfl, rfl, rfl⟩ := h; exact hq
  | seq a b =>
   simp only [exec] at h
   split at h
   ·rename_i fr1 st1 h1
    exact ih _ _ _ _ _ _ _ h1 (ih _ _ _ _ _ _ _ h hq)
   ·rename_i r' hne
    refine ih _ _ _ _ _ _ _ h ?_
    cases e with
    | normal => exact absurd h (hne fr' st')
    | _ => exact hq
  | cond c t el =>
   simp only [exec] at h
   simp only [runP]
   split at h
   ·rename_i b hb
    rw [hb]
    cases b with
    | true => exact ih _ _ _ _ _ _ _ (by simpa using h) hq
    | false => exact ih _ _ _ _ _ _ _ (by simpa using h) hq
   ·cases h
  | block id b =>
   simp only [exec] at h
   split at h
   ·rename_i id' fr1 st1 h1
    refine ih _ _ _ _ _ _ _ h1 ?_
    split at h
    ·rename_i hid
     simp only [Option.some.injEq, Prod.mk.injEq] at h
     obtain ⟨rfl, rfl, rfl⟩ := h
     simp only [hid, if_true]
     exact hq
    ·rename_i hid
     simp only [Option.some.injEq, Prod.mk.injEq] at h
     obtain ⟨rfl, rfl, rfl⟩ := h
     simp only [hid, if_false]
     exact hq
   ·rename_i r' hne
    refine ih _ _ _ _ _ _ _ h ?_
    cases e with
    | exit id' => exact absurd h (hne id' fr' st')
    | _ => exact hq
  | loop b =>
   simp only [exec] at h
   split at h
   ·rename_i fr1 st1 h1
    exact ih _ _ _ _ _ _ _ h1 (ih _ _ _ _ _ _ _ h hq)
   ·rename_i r' hne
    refine ih _ _ _ _ _ _ _ h ?_
    cases e with
    | normal => exact absurd h (hne fr' st')
    | _ => exact hq
  | ops draw l =>
   cases draw with
   | true =>
    simp only [exec] at h
    simp only [runP, h]
    exact hq
   | false =>
    simp only [exec] at h
    exact runL_of (fun f args s o s' Q (hc : callSig E.S (callOf E (exec E n)) f args s = some (o, s')) hqq => sig_of ih hc hqq) l fr st Q e fr' st' h hq
  | rangeF g ps nt as bd =>
   simp only [exec] at h
   simp only [runP]
   split at h
   ·rename_i f vs ht
    rw [ht]
    split at h
    ·rename_i hf
     refine ⟨hf, ?_⟩
     split at h
     ·rename_i v st2 h1
      simp only [Option.map_eq_some_iff, Prod.mk.injEq] at h
      obtain ⟨st3, h3, rfl, rfl, rfl⟩ := h
      exact sig_of ih h1 ⟨st3, h3, hq⟩
     ·cases h
    ·cases h
   ·cases h
end Go.Ai
namespace Go.Ai
open Go.RowKit
variable {P : Program} {ρ ρ' : RM} {w w' : World} {D : List Deferred}
theorem get_put (v : Value) : ∀ (fr : Fr) (d i : Nat), get (put fr d v) i = if i = d then v else get fr i := by
 have hnil : ∀ (d i : Nat), get (put [] d v) i = if i = d then v else undef := by
  intro d
  induction d with
  | zero => intro i; cases i <;> simp [put, get]
  | succ d ih =>
   intro i
   cases i with
   | zero => simp [put, get]
   | succ i => simpa [put, get] using ih i
 intro fr
 induction fr with
 | nil => intro d i; rw [hnil]; simp [get]
 | cons x fr ih =>
  intro d i
  cases d with
  | zero => cases i <;> simp [put, get]
  | succ d =>
   cases i with
   | zero => simp [put, get]
   | succ i => simpa [put, get] using ih d i
structure FRel (D : List Deferred) (ρ : RM) (nt : Nat) (fr : Fr) (a : Act) : Prop where
 size : nt ≤ a.tmps.size
 rel : ∀ i, VRel ρ (get fr i) (a.tmps.getD i undef)
 defers : a.defers = D
theorem FRel.mono {nt : Nat} {fr : Fr} {a : Act} (hρ : ρ.le ρ') (h : FRel D ρ nt fr a) : FRel D ρ' nt fr a := ⟨h.size, fun i => (h.rel i).mono hρ, h.defers⟩
theorem FRel.putD {nt : Nat} {fr : Fr} {a : Act} {d : Option Nat} {v v' : Value} (h : FRel D ρ nt fr a) (hd : ∀ x, d = some x → x < nt) (hv : VRel ρ v v') : FRel D ρ nt (putD fr d v) (a.put d v') := by
 cases d with
 | none => exact h
 | some d =>
  refine ⟨by simpa [Act.put] using h.size, fun i => ?_, h.defers⟩
  show VRel ρ (get (put fr d v) i) ((a.tmps.setIfInBounds d v').getD i undef)
  rw [get_put]
  have hlt : d < a.tmps.size := Nat.lt_of_lt_of_le (hd d rfl) h.size
  by_cases hi : i = d
  ·subst hi
   simp [hlt, hv]
  ·have : (a.tmps.setIfInBounds d v').getD i undef = a.tmps.getD i undef := by
    simp only [Array.getD_eq_getD_getElem?]
    rw [Array.getElem?_setIfInBounds_ne (by omega)]
   rw [if_neg hi, this]
   exact h.rel i
theorem ev_rel {nt : Nat} {fr : Fr} {a : Act} (h : FRel D ρ nt fr a) {x : Operand} (hx : okO x = true) : VRel ρ (ev fr x) (a.eval x) := by
 cases x with
 | tmp t => exact h.rel t
 | const v => exact plain_rel hx
 | global g => simp [okO] at hx
 | func f => exact .func (xs := []) (ys := []) rfl fun i a b h => by simp at h
theorem cop_okO {o : Oper} {r : ROp} (hc : cop P o = some r) : ∀ x ∈ o.op.operands, okO x = true := by
 unfold cop at hc
 split at hc
 ·cases hc
 ·rename_i h
  simp only [Bool.not_eq_true', Bool.not_eq_false] at h
  exact Array.all_eq_true_iff_forall_mem.1 h
theorem given_of {nt : Nat} {fr : Fr} {a : Act} {o : Oper} {r : ROp} (hc : cop P o = some r) (h : FRel D ρ nt fr a) : Given ρ o.op (ev fr) a.eval :=
 ⟨fun x hx => ev_rel h (cop_okO hc x hx), fun _ => rfl, fun _ => rfl⟩
def fpOps : ROp → List Operand
 | .load _ a => [a]
 | .store _ a _ => [a]
 | .lookup _ _ _ x _ _ => [x]
 | .mapUpd _ _ m _ _ => [m]
 | .mapEntry _ _ _ m _ => [m]
 | .entryStore m _ _ => [m]
 | .delete _ _ m _ => [m]
 | .range x => [x]
 | .next it => [it]
 | .entry it => [it]
 | .len _ x => [x]
 | .slice _ x _ _ _ => [x]
 | .sliceA _ _ x _ _ _ => [x]
 | .strOf x => [x]
 | .append _ _ _ s x => [s, x]
 | .appendZ _ _ _ _ s _ => [s]
 | .copy _ d s => [d, s]
 | .call f args => f :: args
 | _ => []
theorem cop_fpOps {o : Oper} {r : ROp} (hc : cop P o = some r) : ∀ x ∈ fpOps r, x ∈ o.op.operands := by
 unfold cop at hc
 split at hc
 ·cases hc
 cases hop : o.op <;> simp only [hop] at hc
 case makeFunc fn a b => cases fn <;> (try simp only at hc) <;> (repeat' split at hc) <;> simp at hc <;> (subst hc; simp [fpOps])
 case makeMap t r => cases r <;> simp at hc <;> (subst hc; simp [fpOps])
 case next it b => cases b <;> simp at hc <;> (subst hc; simp [fpOps, Op.operands])
 case typeAssert a b c d => cases d <;> (try simp only at hc) <;> (repeat' split at hc) <;> simp [Option.map_eq_some_iff] at hc <;> (obtain ⟨_, _, rfl⟩ := hc; simp [fpOps])
 case build => unfold cbuild at hc; (repeat' split at hc) <;> simp [Option.map_eq_some_iff] at hc <;> (obtain ⟨_, _, rfl⟩ := hc; simp [fpOps])
 case binOp => unfold cbin at hc; (repeat' split at hc) <;> simp at hc <;> (try (subst hc; simp [fpOps])) <;> (obtain ⟨_, rfl⟩ := hc; simp [fpOps])
 case call c =>
  obtain ⟨callee, args, argTypes⟩ := c
  cases callee <;> (try simp only at hc)
  case value f =>
   simp at hc
   subst hc
   intro x hx
   simp [fpOps] at hx
   simp [Op.operands, Call.operands]
   exact hx
  case invoke => simp at hc
  case builtin b =>
   cases b <;> (try simp only at hc) <;> (repeat' split at hc) <;> simp [Option.map_eq_some_iff] at hc
   all_goals first
    | (subst hc; intro y hy; simp only [Op.operands, Call.operands]; refine Array.mem_append.2 (.inr (Array.mem_toList_iff.1 ?_)); simp_all [fpOps]; done)
    | (obtain ⟨_, rfl⟩ := hc; intro y hy; simp only [Op.operands, Call.operands]; refine Array.mem_append.2 (.inr (Array.mem_toList_iff.1 ?_)); simp_all [fpOps]; done)
    | (obtain ⟨_, ⟨_, rfl⟩ | ⟨_, rfl⟩⟩ := hc <;> (intro y hy; simp only [Op.operands, Call.operands]; refine Array.mem_append.2 (.inr (Array.mem_toList_iff.1 ?_)); simp_all [fpOps]; done))
 all_goals ((repeat' split at hc) <;> simp [Option.map_eq_some_iff] at hc)
 all_goals first
  | (subst hc; simp [fpOps, Op.operands]; done)
  | (obtain ⟨_, rfl⟩ := hc; simp [fpOps, Op.operands]; done)
  | (obtain ⟨_, _, rfl⟩ := hc; simp [fpOps, Op.operands]; done)
  | (obtain ⟨_, _, _, rfl⟩ := hc; simp [fpOps, Op.operands]; done)
  | (obtain ⟨_, ⟨_, rfl⟩ | ⟨_, rfl⟩⟩ := hc <;> (simp [fpOps, Op.operands]; done))
theorem blk_known {v v' : Value} (h : VRel ρ v v') {b : Nat} (hb : b ∈ blk v) : ∃ L, ρ b = some L := by
 cases v with
 | pointer a =>
  cases a with
  | none => simp [blk] at hb
  | some a =>
   obtain ⟨x, y, sp⟩ := a
   cases sp with
   | some sp => simp [blk] at hb
   | none =>
    simp [blk] at hb
    subst hb
    obtain ⟨L, hL, _⟩ := h.inv_ptr
    exact ⟨L, hL⟩
 | slice a n c =>
  cases a with
  | none => simp [blk] at hb
  | some a =>
   obtain ⟨x, y, sp⟩ := a
   cases sp with
   | some sp => simp [blk] at hb
   | none =>
    simp [blk] at hb
    subst hb
    obtain ⟨L, _, _, hL, _⟩ := h.inv_slice
    exact ⟨L, hL⟩
 | map m =>
  cases m with
  | none => simp [blk] at hb
  | some m =>
   simp [blk] at hb
   subst hb
   obtain ⟨L, hL, _⟩ := h.inv_map
   exact ⟨L, hL⟩
 | _ => simp [blk] at hb
theorem iterMap_known {h : List O} {l : List Nat} (hl : ∀ b ∈ l, ∃ L, ρ b = some L) (hr : ∀ id ∈ l, ∀ L, ρ id = some L → CRel ρ w L (hp h id)) : ∀ b ∈ iterMap h l, ∃ L, ρ b = some L := by
 intro b hb
 unfold iterMap at hb
 split at hb
 ·rename_i r
  split at hb
  ·rename_i m since seen stepped hi
   obtain ⟨L, hL⟩ := hl r (by simp)
   simp at hb
   rcases hb with rfl | rfl
   ·exact ⟨L, hL⟩
   ·have := hr r (by simp) L hL
    rw [hp_some hi] at this
    obtain ⟨_, m', _, k, hk, _⟩ := this
    exact ⟨k, hk⟩
  ·exact hl b hb
 ·exact hl b hb
theorem fp_known {r : ROp} {e e' : Operand → Value} {st : St} (hx : ∀ x ∈ fpOps r, VRel ρ (e x) (e' x)) (hr : ∀ b ∈ (fpOps r).flatMap (fun x => blk (e x)), ∀ L, ρ b = some L → CRel ρ w L (hp st.h b)) :
  ∀ b ∈ (fpOf r e st).r ++ (fpOf r e st).w, ∃ L, ρ b = some L := by
 have one : ∀ x ∈ fpOps r, ∀ b ∈ blk (e x), ∃ L, ρ b = some L := fun x hx' b hb => blk_known (hx x hx') hb
 intro b hb
 cases r <;> simp only [fpOf, List.append_nil, List.nil_append, List.mem_append, List.not_mem_nil, or_false, false_or] at hb
 all_goals first
  | (cases hb; done)
  | exact one _ (by simp [fpOps]) b hb
  | (rcases hb with hb | hb <;> exact one _ (by simp [fpOps]) b hb)
  | skip
 case next it =>
  rcases hb with hb | hb
  ·exact iterMap_known (one it (by simp [fpOps])) (fun id hid => hr id (by simpa [fpOps] using hid)) b hb
  ·exact one it (by simp [fpOps]) b hb
 case entry it =>
  exact iterMap_known (one it (by simp [fpOps])) (fun id hid => hr id (by simpa [fpOps] using hid)) b hb
theorem hp_sees {h : List O} {bs : List Nat} (hk : ∀ b ∈ bs, ∃ L, ρ b = some L) (hr : ∀ b ∈ bs, ∀ L, ρ b = some L → CRel ρ w L (hp h b)) : Sees ρ w h bs := fun b hb o ho => by
 obtain ⟨L, hL⟩ := hk b hb
 have := hr b hb L hL
 rw [hp_some ho] at this
 exact ⟨L, hL, this⟩
structure Open (F : Fence) : Prop where
 fn : ∀ f, F.fn f
 depth : F.depth = none
theorem cop_noDefer {o : Oper} {r : ROp} (hc : cop P o = some r) : ∀ c, o.op ≠ .defer c := by
 intro c hop
 unfold cop at hc
 split at hc
 ·cases hc
 ·simp [hop] at hc
theorem wpIn_of_run {F : Fence} (hF : Open F) {n : Nat} {o : Oper} {r : ROp} {a : Act} {next : Act → World → Prop} {Q : Exit → Act → World → Prop} (hc : cop P o = some r)
  (h : o.uponIn F n P a next Q ((execOp a.eval o).run P w)) : o.wpIn F n P a w next Q := by
 refine ⟨fun f _ => hF.fn f, ?_⟩
 rw [Oper.semAt_eq _ _ _ (cop_noDefer hc)]
 exact h
def XRel (ρ : RM) : Ex → Exit → Prop
 | .normal, .normal => True
 | .exit i, .exit j => i = j
 | .ret, .ret => True
 | .pan v, .panic chain => ∃ v', VRel ρ v v' ∧ chain = [{ v := v', recovered := false }]
 | _, _ => False
def CPost (B : Nat) (ρ : RM) (w : World) (st : St) (Q : Out → St → Prop) : Ending → World → Prop
 | .returned v', w' => ∃ v st' ρ', Q (.ret v) st' ∧ VRel ρ' v v' ∧ SRel B ρ' w' st' ∧ Ran B ρ ρ' w w' st st'
 | .panicked chain, w' => ∃ v v' st' ρ', Q (.pan v) st' ∧ VRel ρ' v v' ∧ chain = [{ v := v', recovered := false }] ∧ SRel B ρ' w' st' ∧ Ran B ρ ρ' w w' st st'
 | .outgrown, _ => False
theorem SRel.step {B : Nat} {st st' : St} {v : Value} {wr : List Nat} {run : Result Next} (hS : SRel B ρ w st) (h : StepOk ρ w st st' v wr run) (hk : ∀ b ∈ wr, ∃ L, ρ b = some L) (hro : RoKept st.h st'.h) :
  ∃ ρ' v' w', (run = .ok (.value v') w' ∨ (run = .ok .skip w' ∧ v' = undef)) ∧ VRel ρ' v v' ∧ SRel B ρ' w' st' ∧ Ran B ρ ρ' w w' st st' := by
 obtain ⟨⟨ws, ⟨ρ', v', w', hrun, heff, hv⟩, hws⟩, hfl, hlen, hown⟩ := h
 have hws' : ∀ k ∈ ws, ∃ o, st.h[k]? = some o ∧ o.own = true := fun k hk => (hws k hk).2.2
 have hmem := hS.mem.step heff hws' (fun _ _ => rfl) (fun k hk' => hk k (hws k hk').1) hlen hown hro
 rw [touched_hp heff hws'] at hmem
 have hran := Ran.of_step hS.mem heff (fun k hk => by
  obtain ⟨o, ho, hoo⟩ := hws' k hk
  rw [hp_some ho]; exact hoo) (fun k hk => (hws k hk).2.1) hfl
 exact ⟨ρ', v', w', hrun, hv, ⟨hmem, hS.full.ran hran⟩, hran⟩
theorem uponIn_step {F : Fence} {n : Nat} {o : Oper} {a : Act} {next : Act → World → Prop} {Q : Exit → Act → World → Prop} {run : Result Next} {v' : Value} (hrun : run = .ok (.value v') w' ∨ (run = .ok .skip w' ∧ v' = undef)) (h : next (a.put o.dst v') w') :
  o.uponIn F n P a next Q run := by
 rcases hrun with rfl | ⟨rfl, rfl⟩ <;> exact h
end Go.Ai
