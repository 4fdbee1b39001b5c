/- A step of the machine beside a step of the abstract run. -/
import Derived.Test.YtdbkhecnkhjhpaaAi8
namespace Go.Ai
open Go.RowKit
set_option linter.unusedSimpArgs false
set_option linter.unusedVariables false
variable {P : Program} {ρ : RM} {w : World}

/-- The blocks are known, and are what the abstract run holds them for. -/
abbrev Sees (ρ : RM) (w : World) (h : List O) (bs : List Nat) : Prop := ∀ b ∈ bs, ∀ o, h[b]? = some o → ∃ L, ρ b = some L ∧ CRel ρ w L o

structure StepOk (ρ : RM) (w : World) (st st' : St) (v : Value) (wr : List Nat) (run : Result Next) : Prop where
  ok : ∃ ws, Ok ρ w st.h st'.h ws v run ∧ ∀ k ∈ ws, k ∈ wr ∧ st'.fl ≤ k ∧ ∃ o, st.h[k]? = some o ∧ o.own = true
  fl : st'.fl ≤ st.fl
  len : st'.h.length ≤ st.h.length + 1
  own : ∀ id, st.h.length ≤ id → ∀ o, st'.h[id]? = some o → o.own = true

theorem StepOk.still {st : St} {v : Value} {wr : List Nat} {run : Result Next} (h : Ok ρ w st.h st.h [] v run) : StepOk ρ w st st v wr run :=
  ⟨⟨[], h, by simp⟩, Nat.le_refl _, Nat.le_succ _, fun id hid o ho => by rw [List.getElem?_eq_none hid] at ho; cases ho⟩

theorem StepOk.made {st : St} {v : Value} {wr : List Nat} {run : Result Next} {o : O} (ho : o.own = true) (h : Ok ρ w st.h (st.h ++ [o]) [] v run) : StepOk ρ w st { st with h := st.h ++ [o] } v wr run :=
  ⟨⟨[], h, by simp⟩, Nat.le_refl _, by simp, fun id hid o' ho' => by
    have hlt := (List.getElem?_eq_some_iff.1 ho').1
    simp at hlt
    obtain rfl : id = st.h.length := by omega
    simp at ho'
    subst ho'
    exact ho⟩

theorem StepOk.wrote {st : St} {v : Value} {wr : List Nat} {run : Result Next} {h' : List O} {b : Nat} (hl : h'.length = st.h.length) (hb : b ∈ wr) (ho : ∃ o, st.h[b]? = some o ∧ o.own = true) (h : Ok ρ w st.h h' [b] v run) :
    StepOk ρ w st { st with h := h', fl := min st.fl b } v wr run :=
  ⟨⟨[b], h, fun k hk => by simp at hk; subst hk; exact ⟨hb, Nat.min_le_right _ _, ho⟩⟩, Nat.min_le_left _ _, by simp [hl], fun id hid o ho => by rw [List.getElem?_eq_none (by rw [hl]; exact hid)] at ho; cases ho⟩

theorem Sees.drew {h : List O} {bs : List Nat} (hm : Sees ρ w h bs) : Sees ρ w.drew h bs := fun b hb o ho =>
  let ⟨L, hL, hc⟩ := hm b hb o ho; ⟨L, hL, hc.same rfl⟩

theorem appendCells_own {elem : TypeId} {size b sLen sCap n : Nat} {base : Option Addr} {new : List Value} {st st' : St} {v : Value} (ha : appendCells elem size b base sLen sCap n new st = some (v, st')) :
    st'.h.length ≤ st.h.length + 1 ∧ ∀ id, st.h.length ≤ id → ∀ o, st'.h[id]? = some o → o.own = true := by
  unfold appendCells at ha
  split at ha
  · obtain ⟨rfl, rfl⟩ := Prod.mk.inj (Option.some.inj ha)
    exact ⟨Nat.le_succ _, fun id hid o ho => by rw [List.getElem?_eq_none hid] at ho; cases ho⟩
  · split at ha
    · split at ha
      · simp only [bind, Option.bind_eq_some_iff, Option.some.injEq, Prod.mk.injEq] at ha
        obtain ⟨h1, hw, rfl, rfl⟩ := ha
        have := (wrN_own hw).2
        exact ⟨by simp [this], fun id hid o ho => by rw [List.getElem?_eq_none (by rw [this]; exact hid)] at ho; cases ho⟩
      · cases ha
    · split at ha
      · simp only [bind, Option.bind_eq_some_iff, Option.some.injEq, Prod.mk.injEq] at ha
        obtain ⟨old, hold, st1, hkill, rfl, rfl⟩ := ha
        have hl : st1.h.length = st.h.length := by
          cases base with
          | none => simp [kill] at hkill; rw [← hkill]
          | some a =>
            obtain ⟨bb, o, sp⟩ := a
            cases sp with
            | some sp => simp [kill] at hkill; rw [← hkill]
            | none =>
              simp only [kill] at hkill
              split at hkill
              · split at hkill
                · obtain rfl := Option.some.inj hkill; simp
                · cases hkill
              · cases hkill
        refine ⟨by simp [hl], fun id hid o ho => ?_⟩
        have hlt := (List.getElem?_eq_some_iff.1 ho).1
        simp at hlt
        obtain rfl : id = st1.h.length := by omega
        simp at ho
        subst ho
        rfl
      · cases ha

theorem append_room {elem : TypeId} {size b sLen sCap n : Nat} {base : Option Addr} {new : List Value} {st st' : St} {v : Value} (ha : appendCells elem size b base sLen sCap n new st = some (v, st')) (hn : n ≠ 0) (hr : ¬ sLen + n ≤ sCap) :
    ∃ old, readSlice st.h size sLen base = some old := by
  unfold appendCells at ha
  rw [if_neg hn, if_neg hr] at ha
  split at ha
  · simp only [bind, Option.bind_eq_some_iff] at ha
    obtain ⟨old, hold, _⟩ := ha
    exact ⟨old, hold⟩
  · cases ha

theorem slice_cap {a a' : Option Addr} {n n' c c' : Nat} (h : VRel ρ (.slice a n c) (.slice a' n' c')) : n' = n ∧ c ≤ c' := by
  cases h with
  | flat _ _ => exact ⟨rfl, Nat.le_refl _⟩
  | empty a => exact ⟨rfl, Nat.le_refl _⟩
  | slice _ h _ _ _ => exact ⟨rfl, h⟩

theorem zeroC_value {t : TypeId} {zero : List Value} (hz : zeroC P t = some zero) : ∃ z, (∀ w, (zeroValue t).run P w = .ok z w) ∧ zero = z.cells.toList ∧ zero.all plain = true := by
  obtain ⟨z, h1, h2, _, h4⟩ := zeroC_run (P := P) (w := default) (ρ := fun _ => none) hz
  exact ⟨z, zeroValue_any h1, h2, h4⟩

theorem append_ok {st st' : St} (hd : st'.h.length ≠ st.h.length → Dom ρ st.h) {sT xT elem xe ty : TypeId} {size b : Nat} {zero : List Value} {s x s' x' v : Value} (hu : P.underlying sT = some (.slice elem)) (hxt : P.underlying xT = some (.slice xe)) (hsz : sizeC P elem = some size) (hb : bytesC P elem = some b)
    (hz : zeroC P elem = some zero) (h0 : 0 < size) (hb0 : 0 < b) (hzl : zero.length = size) (ha : appendV elem size b s x st = some (v, st')) (hs : VRel ρ s s') (hx : VRel ρ x x') (hm : Sees ρ w st.h (blk s)) (hm2 : Sees ρ w st.h (blk x)) :
    StepOk ρ w st st' v (blk s) ((do pure (Next.value (← Builtin.append_ #[sT, xT] ty #[s', x'])) : Sem Next).run P w) := by
  unfold appendV at ha
  split at ha
  · rename_i base sLen sCap xb n xc
    simp only [bind, Option.bind_eq_some_iff] at ha
    obtain ⟨new, hnew, ha⟩ := ha
    obtain ⟨z, hz1, hz2, hz3⟩ := zeroC_value hz
    obtain ⟨new', n1, n2, n3, n4, n5⟩ := readSlice_ok (P := P) (w := w) hnew hx (fun k hk => hm2 k (by simpa [blk] using hk))
    obtain ⟨ρ', v', w', base', sCap', ws, rfl, hrun, heff, hv, hws, hfl, _, hbound⟩ := append_core (P := P) (w := w) hd hsz h0 hz2 hzl ha hs n1 n2 hm
    have hcap := (slice_cap hs).2
    have hr := run_append_slices (w := w) (ty := ty) hu hxt hsz hb hb0 (hz1 w) n4 n3 (n5 _ rfl) (fun hno => by
      have hn : n ≠ 0 := by
        rcases hbound with h | ⟨_, _, h⟩
        · exact absurd h hno
        · exact h
      obtain ⟨old, hold⟩ := append_room ha hn (by omega)
      obtain ⟨old', _, _, o3, _⟩ := readSlice_ok (P := P) (w := w.drew) hold hs (Sees.drew hm)
      exact ⟨_, o3⟩) hbound
    exact ⟨⟨ws, Ok.of_run (hr.trans hrun) heff hv, hws⟩, hfl, (appendCells_own ha).1, (appendCells_own ha).2⟩
  · cases ha

theorem appendZ_ok {st st' : St} (hd : st'.h.length ≠ st.h.length → Dom ρ st.h) {sT xT elem ty : TypeId} {q : IntKind} {size b : Nat} {zero : List Value} {s x s' x' v : Value} (hu : P.underlying sT = some (.slice elem)) (hxt : P.underlying xT = some (.int q)) (hsz : sizeC P elem = some size) (hb : bytesC P elem = some b)
    (hz : zeroC P elem = some zero) (h0 : 0 < size) (hb0 : 0 < b) (hzl : zero.length = size) (ha : appendZV elem size b zero s x st = some (v, st')) (hs : VRel ρ s s') (hx : VRel ρ x x') (hm : Sees ρ w st.h (blk s)) :
    StepOk ρ w st st' v (blk s) ((do pure (Next.value (← Builtin.append_ #[sT, xT] ty #[s', x'])) : Sem Next).run P w) := by
  unfold appendZV at ha
  split at ha
  · rename_i base sLen sCap n
    split at ha
    · rename_i hn
      obtain ⟨hn0, hnb⟩ := hn
      obtain ⟨z, hz1, hz2, hz3⟩ := zeroC_value hz
      have hnn : n = (n.toNat : Int) := by omega
      have hx1 := hx.int
      subst hx1
      have hnb' : n.toNat * b ≤ 2 ^ 47 := by
        rw [hnn] at hnb
        have : ((n.toNat * b : Nat) : Int) ≤ (2 : Int) ^ 47 := by simpa using hnb
        omega
      have hrel : LRel ρ (rep n.toNat zero) (Builtin.zeroCells z.cells n.toNat).toList := by
        rw [zeroCells_ok n.toNat hz2]
        exact plain_all (rep_plain hz3)
      have hlen : (rep n.toNat zero).length = n.toNat * size := by rw [rep_length, hzl]
      obtain ⟨ρ', v', w', base', sCap', ws, rfl, hrun, heff, hv, hws, hfl, _, hbound⟩ := append_core (P := P) (w := w) hd hsz h0 hz2 hzl ha hs hrel hlen hm
      have hcap := (slice_cap hs).2
      have hr := run_append_zeros (w := w) (ty := ty) (n := n.toNat) hu hxt hsz hb hb0 (hz1 w) (by rw [← hzl, hz2]; simp) hnb' (fun hno => by
        have hn : n.toNat ≠ 0 := by
          rcases hbound with h | ⟨_, _, h⟩
          · exact absurd h hno
          · exact h
        obtain ⟨old, hold⟩ := append_room ha hn (by omega)
        obtain ⟨old', _, _, o3, _⟩ := readSlice_ok (P := P) (w := w.drew) hold hs (Sees.drew hm)
        exact ⟨_, o3⟩) hbound
      rw [← hnn] at hr
      exact ⟨⟨ws, Ok.of_run (hr.trans (by simpa using hrun)) heff hv, hws⟩, hfl, (appendCells_own ha).1, (appendCells_own ha).2⟩
    · cases ha
  · cases ha

end Go.Ai
