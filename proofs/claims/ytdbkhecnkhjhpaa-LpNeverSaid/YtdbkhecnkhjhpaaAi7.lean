/- Appending, copying, and small ones. -/
import Derived.Test.YtdbkhecnkhjhpaaAi6
namespace Go.Ai
open Go.RowKit
set_option linter.unusedSimpArgs false
set_option linter.unusedVariables false
variable {P : Program} {ρ : RM} {w : World}

theorem bytes_run {t : TypeId} {b : Nat} (hb : bytesC P t = some b) : ∃ i, P.info? t = some i ∧ i.bytes = b := by
  unfold bytesC at hb
  cases hx : P.info? t with
  | none => simp [hx] at hb
  | some i => exact ⟨i, rfl, by simpa [hx] using hb⟩

/-- What is read of a slice. -/
theorem readSlice_ok {h : List O} {size n c : Nat} {a : Option Addr} {x' : Value} {l : List Value} (hr : readSlice h size n a = some l) (hx : VRel ρ (.slice a n c) x') (hm : ∀ b ∈ blk (.slice a n c), ∀ o, h[b]? = some o → ∃ L, ρ b = some L ∧ CRel ρ w L o) :
    ∃ l', LRel ρ l l' ∧ l.length = n * size ∧ (Builtin.firstCells size n x').run P w = .ok l'.toArray w ∧ Builtin.lenOf x' = (pure n : Sem Nat) ∧ ∀ w2 : World, w2.heap = w.heap → (Builtin.firstCells size n x').run P w2 = .ok l'.toArray w2 := by
  cases a with
  | none =>
    simp only [readSlice] at hr
    split at hr
    · rename_i h0
      obtain rfl := Option.some.inj hr
      cases hx with
      | flat h1 h2 =>
        have : n = 0 ∧ c = 0 := by cases n <;> cases c <;> simp [flat] at h1 <;> exact ⟨rfl, rfl⟩
        obtain ⟨rfl, rfl⟩ := this
        exact ⟨[], LRel.nil ρ, by simp, rfl, rfl, fun _ _ => rfl⟩
    · cases hr
  | some a =>
    obtain ⟨b, o, sp⟩ := a
    cases sp with
    | some sp =>
      simp only [readSlice] at hr
      split at hr
      · rename_i h0
        obtain rfl := Option.some.inj hr
        cases hx with
        | flat h1 h2 => simp [isE] at h2
        | empty a => exact ⟨[], LRel.nil ρ, by simp, by simp [Builtin.firstCells, loadCells, loadCellsFrom], rfl, fun _ _ => by simp [Builtin.firstCells, loadCells, loadCellsFrom]⟩
      · cases hr
    | none =>
      obtain ⟨L, o', c', hL, rfl, g1, g2, g3, g4⟩ := hx.inv_slice
      simp only [readSlice] at hr
      split at hr
      · rename_i h0
        obtain rfl := Option.some.inj hr
        exact ⟨[], LRel.nil ρ, by simp [h0], by simp [Builtin.firstCells, loadCells, h0, loadCellsFrom], rfl, fun _ _ => by simp [Builtin.firstCells, loadCells, h0, loadCellsFrom]⟩
      · rename_i h0
        have hn : n ≠ 0 := fun e => by subst e; simp at h0
        obtain rfl : o' = L.sh + o := by
          rcases g2 with g2 | g2
          · exact g2
          · omega
        obtain ⟨l', h1, h2, h3⟩ := rdN_ok2 (P := P) (w := w) (ρ := ρ) (lo := L) hr (fun o ho => by
          obtain ⟨L', hL', hc⟩ := hm b (by simp [blk]) o ho
          obtain rfl : L = L' := Option.some.inj (hL.symm.trans hL')
          exact hc)
        exact ⟨l', h1, h2, h3 w rfl, rfl, h3⟩

theorem growBy_le (need : Nat) : ∀ (r c : Nat), 256 ≤ c → c ≤ 2 * need → Builtin.growBy need r c ≤ 2 * need
  | 0, c, _, h => h
  | r + 1, c, h1, h => by
    simp only [Builtin.growBy]
    split
    · exact h
    · exact growBy_le need r _ (by omega) (by omega)
theorem nextslicecap_le {need c : Nat} (h : c < need) : Builtin.nextslicecap need c ≤ 2 * need := by
  unfold Builtin.nextslicecap
  split
  · omega
  · split
    · omega
    · exact growBy_le need 4 c (by omega) (by omega)

theorem wrote_new (w : World) (o : Obj) (n : Nat) : ({ w with heap := w.heap.push o, drawn := n } : World).heap[w.heap.size]? = some o := heap_push_at w o

theorem setA_get (vs : List Value) : ∀ (cs : Array Value) (k j : Nat), k + vs.length ≤ cs.size → (setA cs k vs)[j]? = if k ≤ j ∧ j < k + vs.length then vs[j - k]? else cs[j]? := by
  induction vs with
  | nil => intro cs k j _; simp [setA]; intro h1 h2; omega
  | cons v vs ih =>
    intro cs k j h
    simp only [List.length_cons] at h
    rw [setA, ih _ _ _ (by simp; omega)]
    by_cases h1 : k + 1 ≤ j ∧ j < k + 1 + vs.length
    · rw [if_pos h1, if_pos (by simp; omega)]
      have : j - k = (j - (k + 1)) + 1 := by omega
      rw [this]
      rfl
    · rw [if_neg h1]
      by_cases h2 : j = k
      · subst h2
        rw [if_pos (by simp)]
        simp [show j < cs.size by omega]
      · rw [if_neg (by simp; omega), Array.getElem?_setIfInBounds_ne (by omega)]

/-- A row has been made in the place of an elder one, or beside it. -/
theorem Eff.appended {h h1 : List O} {ws : List Nat} {o : O} {L : Loc} {w' : World} (hd : Dom ρ h) (hw : (h1 = h ∧ ws = []) ∨ ∃ bb, h1 = h.set bb .dead ∧ ws = [bb] ∧ bb < h.length)
    (e1 : w'.os = w.os) (e2 : w'.tape = w.tape) (e3 : w'.output = w.output) (e4 : w.heap.size ≤ w'.heap.size)
    (hkeep : ∀ k, k < w.heap.size → (∀ id ∈ ws, ∀ l, ρ id = some l → l.b ≠ k) → w'.heap[k]? = w.heap[k]?) (hc : CRel (upd ρ h.length L) w' L o)
    (hb : w.heap.size ≤ L.b ∨ ∃ k ∈ ws, ∃ lk, ρ k = some lk ∧ lk.b = L.b) : Eff ρ (upd ρ h.length L) w w' h (h1 ++ [o]) ws := by
  have hl : h1.length = h.length := by
    rcases hw with ⟨rfl, _⟩ | ⟨bb, rfl, _⟩ <;> simp
  refine ⟨upd_le L hd.fresh, ?_, e1, e2, e3, e4, hkeep, by simp [hl], ?_, ?_, ?_⟩
  · intro id l hl'
    unfold upd at hl'
    split at hl'
    · rename_i e; exact .inr (by simp; omega)
    · exact .inl hl'
  · intro id hid hne
    rw [List.getElem?_append_left (by omega)]
    rcases hw with ⟨rfl, _⟩ | ⟨bb, rfl, rfl, _⟩
    · rfl
    · rw [List.getElem?_set_ne (by simp at hne; omega)]
  · intro id hid l o' _ ho'
    rcases hw with ⟨_, rfl⟩ | ⟨bb, rfl, rfl, hbb⟩
    · simp at hid
    · simp at hid
      subst hid
      rw [List.getElem?_append_left (by simpa using hbb), List.getElem?_set_self hbb] at ho'
      obtain rfl := Option.some.inj ho'
      trivial
  · intro id h1' h2'
    simp [hl] at h2'
    obtain rfl : id = h.length := by omega
    refine ⟨L, o, upd_at _ _ _, by rw [List.getElem?_append_right (by omega)]; simp [hl], hc, ?_⟩
    rcases hb with hb | ⟨k, hk, lk, hk1, hk2⟩
    · exact .inl hb
    · right
      refine ⟨k, hk, lk, hk1, hk2, ?_⟩
      rcases hw with ⟨_, rfl⟩ | ⟨bb, rfl, rfl, hbb⟩
      · simp at hk
      · simp at hk
        subst hk
        rw [List.getElem?_append_left (by simpa using hbb), List.getElem?_set_self hbb]

/-- The machine's append, its new part known. -/
def appendRun (elem : TypeId) (size sLen sCap n : Nat) (base : Option Addr) (s' : Value) (new : Array Value) (zc : Array Value) (bytes : Nat) : Sem Value := do
  if sLen + n ≤ sCap then
    if let some a := base then storeCells (a.add (sLen * size)) new.toList
    pure (.slice base (sLen + n) sCap)
  else
    let newCap ← choose (.appendCap (sLen + n) sCap elem)
    askRoom (newCap * bytes)
    let old ← Builtin.firstCells size sLen s'
    pure (.slice (some (← newRow elem (old ++ new ++ Builtin.zeroCells zc (newCap - (sLen + n))))) (sLen + n) newCap)

theorem wrN_own {h h' : List O} {b i : Nat} {vs : List Value} (hw : wrN h b i vs = some h') : (∃ o, h[b]? = some o ∧ o.own = true) ∧ h'.length = h.length := by
  unfold wrN at hw
  split at hw
  · rename_i c e s hc
    split at hw
    · obtain rfl := Option.some.inj hw
      exact ⟨⟨_, hc, rfl⟩, by simp⟩
    · cases hw
  · cases hw

theorem append_core {st st' : St} (hd : st'.h.length ≠ st.h.length → Dom ρ st.h) {elem : TypeId} {size b sLen sCap n : Nat} {base : Option Addr} {s' v : Value} {new new' : List Value} {z : Value} {zero : List Value} (hs : sizeC P elem = some size) (h0 : 0 < size)
    (hz : zero = z.cells.toList) (hzl : zero.length = size)
    (ha : appendCells elem size b base sLen sCap n new st = some (v, st')) (hsl : VRel ρ (.slice base sLen sCap) s') (hnew : LRel ρ new new') (hnl : new.length = n * size)
    (hm : ∀ k ∈ blk (.slice base sLen sCap), ∀ o, st.h[k]? = some o → ∃ L, ρ k = some L ∧ CRel ρ w L o) :
    ∃ (ρ' : RM) (v' : Value) (w' : World) (base' : Option Addr) (sCap' : Nat) (ws : List Nat), s' = .slice base' sLen sCap' ∧ (appendRun elem size sLen sCap' n base' s' new'.toArray z.cells b).run P w = .ok v' w' ∧ Eff ρ ρ' w w' st.h st'.h ws ∧ VRel ρ' v v' ∧
      (∀ k ∈ ws, k ∈ blk (.slice base sLen sCap) ∧ st'.fl ≤ k ∧ ∃ o, st.h[k]? = some o ∧ o.own = true) ∧ st'.fl ≤ st.fl ∧ (0 : Nat) = 0 ∧ (sLen + n ≤ sCap' ∨ ((sLen + n) * b ≤ roomMax ∧ ¬ sLen + n ≤ sCap' ∧ n ≠ 0)) := by
  unfold appendCells at ha
  -- the shape of the slice
  have hshape : ∃ base' sCap', s' = .slice base' sLen sCap' ∧ sLen ≤ sCap' ∧ sCap ≤ sCap' := by
    cases hsl with
    | flat h1 h2 =>
      cases base with
      | none =>
        have : sLen = 0 ∧ sCap = 0 := by cases sLen <;> cases sCap <;> simp [flat] at h1 <;> exact ⟨rfl, rfl⟩
        obtain ⟨rfl, rfl⟩ := this
        exact ⟨none, 0, rfl, Nat.le_refl _, Nat.le_refl _⟩
      | some a =>
        obtain ⟨x, y, sp⟩ := a
        cases sp with
        | none => simp [flat] at h1
        | some sp => simp [isE] at h2
    | empty a => exact ⟨some a, 0, rfl, Nat.le_refl _, Nat.le_refl _⟩
    | slice h1 h2 h3 h4 h5 => exact ⟨_, _, rfl, by omega, h2⟩
  obtain ⟨base', sCap', rfl, hlc, hcc⟩ := hshape
  split at ha
  · -- nothing is appended
    rename_i hn
    subst hn
    obtain ⟨rfl, rfl⟩ := Prod.mk.inj (Option.some.inj ha)
    have hn0 : new' = [] := by
      have := hnew.1
      simp at hnl
      subst hnl
      simpa using this.symm
    subst hn0
    refine ⟨ρ, .slice base' sLen sCap', w, base', sCap', [], rfl, ?_, Eff.refl ρ w st.h, hsl, by simp, Nat.le_refl _, rfl, .inl (by omega)⟩
    have : sLen + 0 ≤ sCap' := by omega
    cases base' <;> simp [appendRun, this, hlc, Sem.run_bind, storeCells]
  · rename_i hn
    split at ha
    · -- there is room
      rename_i hroom
      split at ha
      · rename_i bb o
        simp only [bind, Option.bind_eq_some_iff, Option.some.injEq, Prod.mk.injEq] at ha
        obtain ⟨h1, hw, rfl, rfl⟩ := ha
        obtain ⟨L, o', c', hL, e1, g1, g2, g3, g4⟩ := hsl.inv_slice
        simp only [Value.slice.injEq] at e1
        obtain ⟨rfl, _, rfl⟩ := e1
        obtain rfl : o' = L.sh + o := by
          rcases g2 with g2 | g2
          · exact g2
          · omega
        obtain ⟨w', hr, he⟩ := wrN_ok (P := P) (w := w) hw hL (fun x hx => by
          obtain ⟨L', hL', hc⟩ := hm bb (by simp [blk]) x hx
          obtain rfl : L = L' := Option.some.inj (hL.symm.trans hL')
          exact hc) hnew
        refine ⟨ρ, .slice (some ⟨L.b, L.sh + o, none⟩) (sLen + n) sCap', w', _, _, [bb], rfl, ?_, he, VRel.slice hL g1 (.inl rfl) hroom g4, fun k hk => by simp at hk; subst hk; exact ⟨by simp [blk], Nat.min_le_right _ _, (wrN_own hw).1⟩, Nat.min_le_left _ _, rfl, .inl (by omega)⟩
        have hle : sLen + n ≤ sCap' := by omega
        rw [← Nat.add_assoc] at hr
        simp [appendRun, hle, Sem.run_bind, add_none, hr]
      · cases ha
    · -- the abstract run makes a new row
      rename_i hroom
      split at ha
      · rename_i hbytes'
        obtain ⟨hbytes, hone1⟩ := hbytes'
        simp only [bind, Option.bind_eq_some_iff, Option.some.injEq, Prod.mk.injEq] at ha
        obtain ⟨old, hold, st1, hkill, rfl, rfl⟩ := ha
        obtain ⟨old', ho1, ho2, ho3, _⟩ := readSlice_ok (P := P) (w := w) (ρ := ρ) hold hsl hm
        -- what giving the old row up has done
        have hk : (∃ (bb o : Nat) (L : Loc) (c : List Value) (e : TypeId) (s : Nat), base = some ⟨bb, o, none⟩ ∧ ρ bb = some L ∧ st.h[bb]? = some (.cells c e (some s)) ∧ ((s = 0 ∨ s = size) ∧ e = elem) ∧ CRel ρ w L (.cells c e (some s)) ∧ st1.h = st.h.set bb .dead ∧ st1.fl = min st.fl bb ∧ (0 : Nat) = 0) ∨
            (st1 = st ∧ (base = none ∨ ∃ a, base = some a ∧ a.spot.isSome = true)) := by
          cases base with
          | none => simp [kill] at hkill; exact .inr ⟨hkill.symm, .inl rfl⟩
          | some a =>
            obtain ⟨bb, o, sp⟩ := a
            cases sp with
            | some sp => simp [kill] at hkill; exact .inr ⟨hkill.symm, .inr ⟨_, rfl, rfl⟩⟩
            | none =>
              left
              simp only [kill] at hkill
              split at hkill
              · rename_i c e s hc
                split at hkill
                · rename_i hss
                  obtain rfl := Option.some.inj hkill
                  obtain ⟨L, hL, hcr⟩ := hm bb (by simp [blk]) _ hc
                  exact ⟨bb, o, L, c, e, s, rfl, hL, hc, hss, hcr, rfl, rfl, rfl⟩
                · cases hkill
              · cases hkill
        have hlen1 : st1.h.length = st.h.length := by
          rcases hk with ⟨bb, o, L, c, e, s, _, _, _, _, _, h1, _⟩ | ⟨rfl, _⟩
          · rw [h1]; simp
          · rfl
        have hdd : Dom ρ st.h := hd (by simp [hlen1])
        have hcells : LRel ρ (old ++ new) (old' ++ new') := ho1.append hnew
        have hcl : (old ++ new).length = (sLen + n) * size := by rw [List.length_append, ho2, hnl, Nat.add_mul]
        by_cases hreal : sLen + n ≤ sCap'
        · -- the machine has room all the same
          rcases hk with ⟨bb, o, L, c, e, s, rfl, hL, hcb, hss, hcr, hh1, hfl1, hcc1⟩ | ⟨rfl, hbase⟩
          · obtain ⟨L', o', c', hL', e1, g1, g2, g3, g4⟩ := hsl.inv_slice
            obtain rfl : L = L' := Option.some.inj (hL.symm.trans hL')
            simp only [Value.slice.injEq] at e1
            obtain ⟨rfl, _, rfl⟩ := e1
            have hcne : sCap' ≠ sCap := by omega
            obtain ⟨g5, g6⟩ := g4.resolve_left hcne
            obtain ⟨cs, e', fz, k1, k2, k3, _⟩ := hcr
            obtain ⟨rfl, rfl, k4, k5⟩ := k3 s rfl
            have hsz : L.es = size := by omega
            have hcsz : cs.size = L.sz := k5 (by omega)
            rw [hsz] at g6
            have hfit : o' + (sLen + n) * size ≤ cs.size := by
              have := Nat.mul_le_mul_right size hreal
              omega
            have hn1 : new'.length = n * size := by rw [← hnew.1]; exact hnl
            have hone : ∀ v ∈ new', v.oneCell' = true := fun v' hv' => by
              obtain ⟨j, hj⟩ := List.getElem?_of_mem hv'
              have hjl : j < new.length := by rw [hnew.1]; exact (List.getElem?_eq_some_iff.1 hj).1
              exact one1_ok (hnew.2 j _ v' (List.getElem?_eq_getElem hjl) hj) (List.all_eq_true.1 hone1 _ (List.getElem_mem hjl))
            obtain ⟨w', hr, hw⟩ := run_storeCells (P := P) new' (o' + sLen * size) 0 cs w k1 (by rw [hn1]; rw [Nat.add_mul] at hfit; omega) hone
            obtain ⟨hss, rfl⟩ := hss
            have hfit' : o' + sLen * size + new'.length ≤ cs.size := by rw [hn1]; rw [Nat.add_mul] at hfit; omega
            have hbb : bb < st.h.length := (List.getElem?_eq_some_iff.1 hcb).1
            have hcr' : CRel (upd ρ st.h.length ⟨L.b, o', size, cs.size⟩) w' ⟨L.b, o', size, cs.size⟩ (.cells (old ++ new) e' (some size)) := by
              refine ⟨_, _, _, hw.at_, ?_, fun s' hs' => ?_, by simp⟩
              · have hle := upd_le ⟨L.b, o', size, cs.size⟩ hdd.fresh
                intro i v hv
                show ∃ v', (setA cs (o' + sLen * size + 0) new')[o' + i]? = some v' ∧ _
                rw [Nat.add_zero, setA_get _ _ _ _ hfit']
                by_cases hi : i < old.length
                · rw [List.getElem?_append_left hi] at hv
                  rw [if_neg (by omega)]
                  have hs1 : sLen * size ≠ 0 := by omega
                  simp only [readSlice, hs1, if_false] at hold
                  unfold rdN at hold
                  rw [hcb] at hold
                  simp only at hold
                  split at hold
                  · obtain rfl := Option.some.inj hold
                    rw [List.getElem?_take_of_lt (by simp at hi; omega), List.getElem?_drop] at hv
                    obtain ⟨v', q1, q2⟩ := k2 _ v hv
                    refine ⟨v', ?_, q2.mono hle⟩
                    have hsl0 : sCap ≠ 0 := by
                      intro h; subst h
                      have : sLen = 0 := by omega
                      subst this; simp at hs1
                    have ho : o' = L.sh + o := g2.resolve_right hsl0
                    rw [ho, Nat.add_assoc]
                    exact q1
                  · cases hold
                · rw [List.getElem?_append_right (by omega)] at hv
                  obtain ⟨v', q1, q2⟩ := hnew.get hv
                  have hil : i - old.length < new'.length := (List.getElem?_eq_some_iff.1 q1).1
                  refine ⟨v', ?_, q2.mono hle⟩
                  rw [if_pos (by omega)]
                  rw [show o' + i - (o' + sLen * size) = i - old.length by omega]
                  exact q1
              · obtain rfl := Option.some.inj hs'
                exact ⟨rfl, rfl, rfl, fun _ => by rw [setA_size]⟩
            have heff := Eff.appended (ρ := ρ) (w := w) (w' := w') (h := st.h) (h1 := st1.h) (ws := [bb]) (L := ⟨L.b, o', size, cs.size⟩) hdd (.inr ⟨bb, hh1, rfl, hbb⟩) hw.os hw.tape hw.output (by rw [hw.size]; exact Nat.le_refl _)
              (fun k hk hne => hw.other k (fun e => hne bb (by simp) L hL e.symm)) hcr' (.inr ⟨bb, by simp, L, hL, rfl⟩)
            refine ⟨_, .slice (some ⟨L.b, o', none⟩) (sLen + n) sCap', w', _, _, [bb], rfl, ?_, heff, ?_, fun k hk => by simp at hk; subst hk; exact ⟨by simp [blk], by rw [hfl1]; exact Nat.min_le_right _ _, _, hcb, rfl⟩, by rw [hfl1]; exact Nat.min_le_left _ _, hcc1, .inl hreal⟩
            · simp [appendRun, hreal, Sem.run_bind, add_none, hr]
            · rw [hlen1]
              exact VRel.slice (l := ⟨L.b, o', size, cs.size⟩) (upd_at _ _ _) hreal (.inl rfl) (Nat.le_refl _) (.inr ⟨h0, by show o' + sCap' * size ≤ cs.size; omega⟩)
          · exfalso
            rcases hbase with rfl | ⟨a, rfl, hsp⟩
            · cases hsl with
              | flat h1 h2 =>
                have : sLen = 0 ∧ sCap = 0 := by cases sLen <;> cases sCap <;> simp [flat] at h1 <;> exact ⟨rfl, rfl⟩
                omega
            · obtain ⟨x, y, sp⟩ := a
              cases sp with
              | none => simp at hsp
              | some sp =>
                cases hsl with
                | flat h1 h2 => simp [isE] at h2
                | empty a => omega
        · -- the machine makes a new row, too
          obtain ⟨old2, p1, p2, p3, _⟩ := readSlice_ok (P := P) (w := { w with drawn := w.drawn + 1 }) (ρ := ρ) hold hsl (fun k hk o ho => by
            obtain ⟨L, hL, hc⟩ := hm k hk o ho
            exact ⟨L, hL, hc.same rfl⟩)
          have hcells2 : LRel ρ (old ++ new) (old2 ++ new') := p1.append hnew
          have hzs : z.cells.size = size := by rw [← hzl, hz]; simp
          obtain ⟨newCap, hge, hrun⟩ : ∃ newCap, sLen + n ≤ newCap ∧ (choose (.appendCap (sLen + n) sCap' elem)).run P w = .ok newCap { w with drawn := w.drawn + 1 } :=
            ⟨(Question.appendCap (sLen + n) sCap' elem).cut (w.tape w.drawn (.appendCap (sLen + n) sCap' elem)), by simp [Question.cut], by simp [Question.forced]⟩
          let row : Array Value := old2.toArray ++ new'.toArray ++ Builtin.zeroCells z.cells (newCap - (sLen + n))
          have hrl : row.size = newCap * size := by
            have q1 : (old2 ++ new').length = (sLen + n) * size := by rw [← hcells2.1]; exact hcl
            simp only [List.length_append] at q1
            simp only [row, Array.size_append, List.size_toArray, Builtin.zeroCells, Array.size_map, Array.size_range, hzs]
            rw [q1, ← Nat.add_mul]
            congr 1
            omega
          have hws : ∃ ws : List Nat, ((st1.h = st.h ∧ ws = []) ∨ ∃ bb, st1.h = st.h.set bb .dead ∧ ws = [bb] ∧ bb < st.h.length) ∧ (∀ k ∈ ws, k ∈ blk (.slice base sLen sCap) ∧ st1.fl ≤ k ∧ ∃ o, st.h[k]? = some o ∧ o.own = true) ∧ st1.fl ≤ st.fl ∧ (0 : Nat) = 0 := by
            rcases hk with ⟨bb, o, L, c, e, s, rfl, hL, hcb, hss, hcr, hh1, hfl1, hcc1⟩ | ⟨rfl, hbase⟩
            · exact ⟨[bb], .inr ⟨bb, hh1, rfl, (List.getElem?_eq_some_iff.1 hcb).1⟩, fun k hk => by simp at hk; subst hk; exact ⟨by simp [blk], by rw [hfl1]; exact Nat.min_le_right _ _, _, hcb, rfl⟩, by rw [hfl1]; exact Nat.min_le_left _ _, hcc1⟩
            · exact ⟨[], .inl ⟨rfl, rfl⟩, by simp, Nat.le_refl _, rfl⟩
          obtain ⟨ws, hws, hfl, hfl2, hcc2⟩ := hws
          have hle := upd_le ⟨w.heap.size, 0, size, row.size⟩ hdd.fresh
          have hcr' : CRel (upd ρ st.h.length ⟨w.heap.size, 0, size, row.size⟩) { w with heap := w.heap.push (.cells row elem), drawn := w.drawn + 1 } ⟨w.heap.size, 0, size, row.size⟩ (.cells (old ++ new) elem (some size)) := by
            refine ⟨row, elem, (0, 0), wrote_new w _ _, ?_, fun s' hs' => ?_, by simp⟩
            · intro i v hv
              obtain ⟨v', q1, q2⟩ := hcells2.get hv
              refine ⟨v', ?_, q2.mono hle⟩
              have hil : i < (old2 ++ new').length := (List.getElem?_eq_some_iff.1 q1).1
              show row[0 + i]? = some v'
              rw [Nat.zero_add]
              simp only [row]
              rw [Array.getElem?_append_left (by simpa using hil)]
              simpa using q1
            · obtain rfl := Option.some.inj hs'
              exact ⟨rfl, rfl, rfl, fun _ => rfl⟩
          have heff := Eff.appended (ρ := ρ) (w := w) (w' := { w with heap := w.heap.push (.cells row elem), drawn := w.drawn + 1 }) (h := st.h) (h1 := st1.h) (ws := ws) (L := ⟨w.heap.size, 0, size, row.size⟩) hdd hws rfl rfl rfl (by simp)
            (fun k hk _ => heap_push_lt w _ k hk) hcr' (.inl (Nat.le_refl _))
          refine ⟨_, .slice (some ⟨w.heap.size, 0, none⟩) (sLen + n) newCap, _, _, _, ws, rfl, ?_, heff, ?_, hfl, hfl2, hcc2, .inr ⟨hbytes, hreal, hn⟩⟩
          · simp only [appendRun, hreal, if_false, Sem.run_bind, hrun, Result.andThen_ok, run_askRoom, p3, run_newRow, Sem.run_pure]
            rfl
          · rw [hlen1]
            exact VRel.slice (l := ⟨w.heap.size, 0, size, row.size⟩) (upd_at _ _ _) hge (.inl rfl) (Nat.le_refl _) (.inr ⟨h0, by show 0 + newCap * size ≤ row.size; rw [hrl]; omega⟩)
      · cases ha

end Go.Ai
