/- Addresses, slices of slices, appending, copying. -/
import Derived.Test.YtdbkhecnkhjhpaaAi5
namespace Go.Ai
open Go.RowKit
set_option linter.unusedSimpArgs false
set_option linter.unusedVariables false
variable {P : Program} {ρ : RM} {w : World}

theorem faddr_ok {h : List O} {s : TypeId} {fields : Array Field} {f : Nat} {fd : Field} {n b i : Nat} {x' : Value} (hu : P.underlying s = some (.struct fields)) (hf : fields[f]? = some fd) (hs : sizeC P fd.type = some n) (hn : 0 < n)
    (hx : VRel ρ (.pointer (some ⟨b, i, none⟩)) x') : Ok ρ w h h [] (.pointer (some ⟨b, i + fd.offset, none⟩)) ((do pure (Next.value (← Instr.fieldAt s x' f)) : Sem Next).run P w) := by
  obtain ⟨l, hl, rfl⟩ := hx.inv_ptr
  have hv := VRel.ptr (ρ := ρ) (o := i + fd.offset) hl
  rw [← Nat.add_assoc] at hv
  refine ok_pure ?_ hv
  have hsa : (Instr.sureAddr (.pointer (some ⟨l.b, l.sh + i, none⟩))).run P w = .ok ⟨l.b, l.sh + i, none⟩ w := rfl
  simp [Instr.fieldAt, Sem.run_bind, run_underlying hu, hf, hsa, fieldPlace, run_size hs, show n ≠ 0 by omega, add_none]

theorem partL_ok {t : TypeId} {n : Option Nat} {cs : List Value} {cs' : Array Value} {off : Nat} {v : Value} (ht : aggN P t = some n) (hc : LRel ρ cs cs'.toList) (hv : partL cs off n = some v) :
    ∃ v', (part t cs' off).run P w = .ok v' w ∧ VRel ρ v v' := by
  unfold aggN at ht
  cases hu : P.underlying t with
  | none => simp [hu] at ht
  | some d =>
    cases n with
    | none =>
      have ha : isAggD d = false := by
        cases d <;> simp [hu] at ht <;> first | rfl | (obtain ⟨i, hi, h⟩ := ht; cases h)
      obtain ⟨v', h1, h2⟩ := hc.get hv
      exact ⟨v', run_part_one hu ha h1, h2⟩
    | some k =>
      have hsz : isAggD d = true ∧ sizeC P t = some k := by
        cases d <;> simp [hu] at ht <;> (obtain ⟨i, hi, h⟩ := ht; subst h; exact ⟨rfl, by simp [sizeC, hi]⟩)
      obtain ⟨ha, hsz⟩ := hsz
      simp only [partL, Option.some.injEq] at hv
      subst hv
      exact ⟨_, run_part_agg hu ha hsz, VRel.agg' ((hc.drop off).take k)⟩

theorem field_ok {h : List O} {s : TypeId} {fields : Array Field} {f : Nat} {fd : Field} {n : Option Nat} {cs : Array Value} {x' v : Value} (hu : P.underlying s = some (.struct fields)) (hf : fields[f]? = some fd) (ht : aggN P fd.type = some n)
    (hx : VRel ρ (.agg cs) x') (hv : partL cs.toList fd.offset n = some v) : Ok ρ w h h [] v ((do pure (Next.value (← Instr.field s x' f)) : Sem Next).run P w) := by
  obtain ⟨cs', rfl, hc⟩ := hx.inv_agg
  obtain ⟨v', h1, h2⟩ := partL_ok (P := P) (w := w) ht hc hv
  exact ok_pure (by simp [Instr.field, Sem.run_bind, run_underlying hu, hf, asAgg, h1]) h2

theorem iaddrS_ok {h : List O} {t elem : TypeId} {size b o n c : Nat} {k : IntKind} {j : Int} {x' i' : Value} (hu : P.underlying t = some (.slice elem)) (hs : sizeC P elem = some size)
    (hx : VRel ρ (.slice (some ⟨b, o, none⟩) n c) x') (hi : VRel ρ (.int k j) i') (h0 : 0 ≤ j) (hn : j < n) :
    Ok ρ w h h [] (.pointer (some ⟨b, o + j.toNat * size, none⟩)) ((do pure (Next.value (← Instr.indexAt t x' i')) : Sem Next).run P w) := by
  obtain ⟨l, o', c', hl, rfl, h1, h2, h3, h4⟩ := hx.inv_slice
  obtain rfl := hi.int
  have ho : o' = l.sh + o := by
    rcases h2 with h2 | h2
    · exact h2
    · omega
  subst ho
  have hv := VRel.ptr (ρ := ρ) (o := o + j.toNat * size) hl
  rw [← Nat.add_assoc] at hv
  refine ok_pure ?_ hv
  have hc : 0 ≤ j ∧ j < (n : Int) := ⟨h0, hn⟩
  simp [Instr.indexAt, Sem.run_bind, asIntOf, run_underlying hu, hc, run_size hs, add_none]

theorem iaddrA_ok {h : List O} {t elem : TypeId} {len size b o : Nat} {k : IntKind} {j : Int} {x' i' : Value} (hu : P.underlying t = some (.array len elem)) (hs : sizeC P elem = some size)
    (hx : VRel ρ (.pointer (some ⟨b, o, none⟩)) x') (hi : VRel ρ (.int k j) i') (h0 : 0 ≤ j) (hn : j < len) :
    Ok ρ w h h [] (.pointer (some ⟨b, o + j.toNat * size, none⟩)) ((do pure (Next.value (← Instr.indexAt t x' i')) : Sem Next).run P w) := by
  obtain ⟨l, hl, rfl⟩ := hx.inv_ptr
  obtain rfl := hi.int
  have hv := VRel.ptr (ρ := ρ) (o := o + j.toNat * size) hl
  rw [← Nat.add_assoc] at hv
  refine ok_pure ?_ hv
  have hc : 0 ≤ j ∧ j < (len : Int) := ⟨h0, hn⟩
  have hsa : (Instr.sureAddr (.pointer (some ⟨l.b, l.sh + o, none⟩))).run P w = .ok ⟨l.b, l.sh + o, none⟩ w := rfl
  simp [Instr.indexAt, Sem.run_bind, asIntOf, run_underlying hu, hsa, hc, run_size hs, add_none]

theorem indexA_ok {h : List O} {t elem : TypeId} {len size : Nat} {n : Option Nat} {cs : Array Value} {k : IntKind} {j : Int} {x' i' v : Value} (hu : P.underlying t = some (.array len elem)) (hs : sizeC P elem = some size) (ht : aggN P elem = some n)
    (hx : VRel ρ (.agg cs) x') (hi : VRel ρ (.int k j) i') (h0 : 0 ≤ j) (hn : j < len) (hv : partL cs.toList (j.toNat * size) n = some v) :
    Ok ρ w h h [] v ((do pure (Next.value (← Instr.index t x' i')) : Sem Next).run P w) := by
  obtain ⟨cs', rfl, hc⟩ := hx.inv_agg
  obtain rfl := hi.int
  obtain ⟨v', h1, h2⟩ := partL_ok (P := P) (w := w) ht hc hv
  have hc : 0 ≤ j ∧ j < (len : Int) := ⟨h0, hn⟩
  exact ok_pure (by simp [Instr.index, Sem.run_bind, asIntOf, run_underlying hu, hc, run_size hs, h1]) h2

theorem extract_ok {h : List O} {i : Nat} {vs : Array Value} {x' v : Value} (hx : VRel ρ (.tuple vs) x') (hv : vs.toList[i]? = some v) : Ok ρ w h h [] v ((do pure (Next.value (← Instr.extract x' i)) : Sem Next).run P w) := by
  obtain ⟨vs', rfl, hc⟩ := hx.inv_tuple
  obtain ⟨v', h1, h2⟩ := hc.get hv
  have h1' : vs'[i]? = some v' := by simpa using h1
  exact ok_pure (by simp [Instr.extract, h1']) h2

/-! ### Slices of slices -/
theorem bound_ok {x x' : Value} {y n : Nat} {code : BoundsCode} (h : bound x y = some n) (hx : VRel ρ x x') (y' : Nat) (hy : y ≤ y') : (Instr.sliceBound x' y' code).run P w = .ok n w ∧ n ≤ y := by
  unfold bound at h
  split at h
  · rename_i k i
    obtain rfl := hx.int
    split at h
    · rename_i hc
      obtain rfl := Option.some.inj h
      have : 0 ≤ i ∧ i ≤ (y' : Int) := ⟨hc.1, by omega⟩
      exact ⟨by simp [Instr.sliceBound, Sem.run_bind, asIntOf, this], by omega⟩
    · cases h
  · cases h

def ORel (ρ : RM) : Option Value → Option Value → Prop
  | some a, some b => VRel ρ a b
  | none, none => True
  | _, _ => False

/-- The bounds of a slice of a slice whose room is at least the one reckoned with. -/
theorem bounds_ok {lo hi mx lo' hi' mx' : Option Value} {len cap cap' m h l : Nat} (hcap : cap ≤ cap')
    (hm : mxB cap mx = some m) (hh : hiB len m mx.isSome hi = some h) (hl : loB h lo = some l)
    (r1 : ORel ρ lo lo') (r2 : ORel ρ hi hi') (r3 : ORel ρ mx mx') (hlen : len ≤ cap) :
    ∃ m', (Instr.sliceBounds true len cap' lo' hi' mx').run P w = .ok (l, h, m') w ∧ m ≤ m' ∧ l ≤ h ∧ h ≤ m ∧ m ≤ cap ∧ (mx.isSome = true → m' = m) ∧ (mx = none → m' = cap' ∧ m = cap) := by
  have e1 : l ≤ h ∧ ∀ c, match lo' with | some v => (Instr.sliceBound v h c).run P w = .ok l w | none => l = 0 := by
    cases lo <;> cases lo' <;> simp only [ORel] at r1
    · simp [loB] at hl; subst hl; exact ⟨Nat.zero_le _, fun _ => rfl⟩
    · exact ⟨(bound_ok (P := P) (w := w) (code := .index) hl r1 h (Nat.le_refl _)).2, fun c => (bound_ok (P := P) (w := w) (code := c) hl r1 h (Nat.le_refl _)).1⟩
  obtain ⟨hlh, e1⟩ := e1
  cases mx with
  | none =>
    cases mx' with
    | some b => exact r3.elim
    | none =>
      simp [mxB] at hm
      subst hm
      have e2 : h ≤ cap ∧ match hi' with | some v => (Instr.sliceBound v cap' .sliceAcap).run P w = .ok h w | none => h = len := by
        cases hi <;> cases hi' <;> simp only [ORel] at r2
        · simp [hiB] at hh; subst hh; exact ⟨hlen, rfl⟩
        · have := bound_ok (P := P) (w := w) (code := .sliceAcap) hh r2 cap' hcap; exact ⟨this.2, this.1⟩
      refine ⟨cap', ?_, hcap, hlh, e2.1, Nat.le_refl _, by simp, fun _ => ⟨rfl, rfl⟩⟩
      have e1' := e1 .sliceB
      cases hi' with
      | none =>
        obtain ⟨_, rfl⟩ := e2
        cases lo' <;> simp only at e1' <;> simp [Instr.sliceBounds, Sem.run_bind, e1']
      | some b =>
        cases lo' <;> simp only at e2 e1' <;> simp [Instr.sliceBounds, Sem.run_bind, e2.2, e1']
  | some v =>
    cases mx' with
    | none => exact r3.elim
    | some b =>
      have e3 := bound_ok (P := P) (w := w) (code := .slice3Acap) hm r3 cap' hcap
      cases hi with
      | none => simp [hiB] at hh
      | some hv =>
        cases hi' with
        | none => exact r2.elim
        | some hb =>
          have e2 := bound_ok (P := P) (w := w) (code := .slice3B) hh r2 m (Nat.le_refl _)
          have e1' := e1 .slice3C
          refine ⟨m, ?_, Nat.le_refl _, hlh, e2.2, e3.2, fun _ => rfl, by simp⟩
          cases lo' <;> simp only at e1' <;> simp [Instr.sliceBounds, Sem.run_bind, e3.1, e2.1, e1']

theorem slice_ok {h : List O} {t elem : TypeId} {size : Nat} {x x' v : Value} {lo hi mx lo' hi' mx' : Option Value} (hu : P.underlying t = some (.slice elem)) (hs : sizeC P elem = some size) (hv : sliceV h size x lo hi mx = some v) (hx : VRel ρ x x')
    (r1 : ORel ρ lo lo') (r2 : ORel ρ hi hi') (r3 : ORel ρ mx mx') (hmem : ∀ b ∈ blk x, ∀ o, h[b]? = some o → ∃ L, ρ b = some L ∧ CRel ρ w L o) :
    Ok ρ w h h [] v ((do pure (Next.value (← Instr.sliceAt t x' lo' hi' mx')) : Sem Next).run P w) := by
  unfold sliceV at hv
  split at hv
  · rename_i a len cap
    simp only [Option.bind_eq_some_iff] at hv
    obtain ⟨m, hm, k, hk, l, hl, hv⟩ := hv
    have main : ∀ (a' : Option Addr) (cap' m' : Nat) (v' : Value), x' = .slice a' len cap' → (Instr.sliceBounds true len cap' lo' hi' mx').run P w = .ok (l, k, m') w →
        v' = .slice (if m' = l then a' else a'.map (·.add (l * size))) (k - l) (m' - l) → VRel ρ v v' → Ok ρ w h h [] v ((do pure (Next.value (← Instr.sliceAt t x' lo' hi' mx')) : Sem Next).run P w) := by
      intro a' cap' m' v' hx' hb hv' hr
      subst hx'
      refine ok_pure (v' := v') ?_ hr
      subst hv'
      simp [Instr.sliceAt, Instr.slice, Sem.run_bind, run_underlying hu, hb, run_size hs]
    cases a with
    | none =>
      simp only [sliceA, Option.some.injEq] at hv
      subst hv
      have hx2 : x' = .slice none len cap ∧ len = 0 ∧ cap = 0 := by
        cases hx with
        | flat h1 h2 =>
          refine ⟨rfl, ?_⟩
          cases len <;> cases cap <;> simp [flat] at h1 <;> exact ⟨rfl, rfl⟩
      obtain ⟨rfl, rfl, rfl⟩ := hx2
      obtain ⟨m', hb, h1, h2, h3, h6, h4, h5⟩ := bounds_ok (P := P) (w := w) (ρ := ρ) (Nat.le_refl 0) hm hk hl r1 r2 r3 (Nat.le_refl 0)
      obtain rfl : m = 0 := by omega
      obtain rfl : m' = 0 := by
        cases mx with
        | none => exact (h5 rfl).1
        | some v => exact h4 rfl
      obtain rfl : k = 0 := by omega
      obtain rfl : l = 0 := by omega
      exact main none 0 0 _ rfl hb rfl (.flat rfl rfl)
    | some a =>
      obtain ⟨b, o, sp⟩ := a
      cases sp with
      | some sp =>
        have hx2 : (∃ a', x' = .slice (some a') 0 0) ∧ len = 0 ∧ cap = 0 ∧ VRel ρ (.slice (some ⟨b, o, some sp⟩) 0 0) x' := by
          have hx0 := hx
          cases hx with
          | flat h1 h2 => simp [isE] at h2
          | empty a => exact ⟨⟨a, rfl⟩, rfl, rfl, hx0⟩
        obtain ⟨⟨a', rfl⟩, rfl, rfl, hx3⟩ := hx2
        simp only [sliceA] at hv
        split at hv
        · rename_i hml
          obtain rfl := Option.some.inj hv
          obtain ⟨m', hb, h1, h2, h3, h6, h4, h5⟩ := bounds_ok (P := P) (w := w) (ρ := ρ) (Nat.le_refl 0) hm hk hl r1 r2 r3 (Nat.le_refl 0)
          obtain rfl : m = 0 := by omega
          obtain rfl : m' = 0 := by
            cases mx with
            | none => exact (h5 rfl).1
            | some v => exact h4 rfl
          obtain rfl : k = 0 := by omega
          subst hml
          exact main (some a') 0 0 _ rfl hb rfl hx3
        · cases hv
      | none =>
        obtain ⟨L, o', c', hL, rfl, g1, g2, g3, g4⟩ := hx.inv_slice
        obtain ⟨m', hb, h1, h2, h3, h6, h4, h5⟩ := bounds_ok (P := P) (w := w) (ρ := ρ) g1 hm hk hl r1 r2 r3 g3
        simp only [sliceA] at hv
        split at hv
        · rename_i htag
          obtain rfl := Option.some.inj hv
          have hsz : 0 < L.es → L.es = size := by
            intro hpos
            unfold tagOk at htag
            split at htag
            · rename_i c e s hc
              obtain ⟨L', hL', cs, e', fz, _, _, k3, _⟩ := hmem b (by simp [blk]) _ hc
              obtain rfl : L = L' := Option.some.inj (hL.symm.trans hL')
              obtain ⟨_, _, k4, _⟩ := k3 s rfl
              simp at htag
              omega
            · rename_i c e hc
              obtain ⟨L', hL', cs, e', fz, _, _, _, k3⟩ := hmem b (by simp [blk]) _ hc
              obtain rfl : L = L' := Option.some.inj (hL.symm.trans hL')
              have := k3 rfl
              omega
            · cases htag
          have hml : m' = l → m = l := fun e => by omega
          refine main (some ⟨L.b, o', none⟩) c' m' (.slice (some (if m' = l then ⟨L.b, o', none⟩ else ⟨L.b, o' + l * size, none⟩)) (k - l) (m' - l)) rfl hb ?_ ?_
          · split <;> simp [add_none, *]
          · have hex : (m' - l = m - l) ∨ (0 < L.es ∧ (if m' = l then o' else o' + l * size) + (m' - l) * L.es ≤ L.sz) := by
              cases mx with
              | some v => left; rw [h4 rfl]
              | none =>
                obtain ⟨rfl, rfl⟩ := h5 rfl
                rcases g4 with g4 | ⟨g4, g5⟩
                · left; rw [g4]
                · right
                  refine ⟨g4, ?_⟩
                  rw [← hsz g4]
                  split
                  · rename_i e
                    subst e
                    have : o' ≤ o' + m' * L.es := Nat.le_add_right _ _
                    simp
                    omega
                  · have e1 : l * L.es + (m' - l) * L.es = m' * L.es := by rw [← Nat.add_mul]; congr 1; omega
                    omega
            have := VRel.slice (ρ := ρ) (id := b) (o := if m = l then o else o + l * size) (o' := if m' = l then o' else o' + l * size) (n := k - l) (c := m - l) (c' := m' - l) hL (by omega)
              (by
                by_cases e : m = l
                · right; omega
                · left
                  have e' : m' ≠ l := fun x => e (hml x)
                  rw [if_neg e, if_neg e']
                  rcases g2 with g2 | g2 <;> omega) (by omega) hex
            by_cases e : m = l <;> by_cases e' : m' = l <;> simp only [e, e', if_true, if_false] at this ⊢ <;> exact this
        · cases hv
  · cases hv

end Go.Ai
