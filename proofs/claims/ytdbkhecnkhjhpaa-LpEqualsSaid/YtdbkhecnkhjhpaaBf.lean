/- Texts that were built one by one: Md1, Md2, Md3, Md4, Md5. -/
import Derived.Test.YtdbkhecnkhjhpaaBd
/- Determinants by their first coordinate: as much of them as the entries of a tableau need. -/
namespace Go.Ai
set_option linter.unusedSimpArgs false
set_option linter.unusedVariables false

/-! ### Sums -/
theorem sumN_zero {f : Nat → Int} {n : Nat} (h : ∀ i, i < n → f i = 0) : sumN f n = 0 := by
  induction n with
  | zero => rfl
  | succ n ih => simp only [sumN]; rw [ih fun i hi => h i (by omega), h n (by omega)]; rfl
theorem sumN_single {f : Nat → Int} {n i : Nat} (hi : i < n) (h : ∀ l, l < n → l ≠ i → f l = 0) : sumN f n = f i := by
  induction n with
  | zero => omega
  | succ n ih =>
    simp only [sumN]
    by_cases e : i = n
    · subst e; rw [sumN_zero fun l hl => h l (by omega) (by omega)]; omega
    · rw [ih (by omega) fun l hl hn => h l (by omega) hn, h n (by omega) (by omega)]; omega
theorem sumN_two {f : Nat → Int} {n i j : Nat} (hi : i < j) (hj : j < n) (h : ∀ l, l < n → l ≠ i → l ≠ j → f l = 0) : sumN f n = f i + f j := by
  induction n with
  | zero => omega
  | succ n ih =>
    simp only [sumN]
    by_cases e : j = n
    · subst e; rw [sumN_single (i := i) (by omega) fun l hl hn => h l (by omega) hn (by omega)]
    · rw [ih (by omega) fun l hl hn hm => h l (by omega) hn hm, h n (by omega) (by omega) (by omega)]; omega
theorem sumN_lin (x y : Int) (f g : Nat → Int) (n : Nat) : sumN (fun i => x * f i + y * g i) n = x * sumN f n + y * sumN g n := by
  rw [sumN_add, sumN_mul, sumN_mul]

def nsum (f : Nat → Nat) : Nat → Nat
  | 0 => 0
  | n + 1 => nsum f n + f n
def nprod (f : Nat → Nat) : Nat → Nat
  | 0 => 1
  | n + 1 => nprod f n * f n
theorem nsum_congr {f g : Nat → Nat} {n : Nat} (h : ∀ i, i < n → f i = g i) : nsum f n = nsum g n := by
  induction n with
  | zero => rfl
  | succ n ih => simp only [nsum]; rw [ih fun i hi => h i (by omega), h n (by omega)]
theorem nsum_le {f g : Nat → Nat} {n : Nat} (h : ∀ i, i < n → f i ≤ g i) : nsum f n ≤ nsum g n := by
  induction n with
  | zero => exact Nat.le_refl _
  | succ n ih => have := ih fun i hi => h i (by omega); have := h n (by omega); simp only [nsum]; omega
theorem nsum_mul (f : Nat → Nat) (c n : Nat) : nsum (fun i => f i * c) n = nsum f n * c := by
  induction n with
  | zero => simp [nsum]
  | succ n ih => simp only [nsum, ih, Nat.add_mul]
theorem nsum_skip {f : Nat → Nat} {l m : Nat} (hl : l < m + 1) : nsum (fun a => f (if a < l then a else a + 1)) m + f l = nsum f (m + 1) := by
  induction m with
  | zero => have : l = 0 := by omega
            subst this; simp [nsum]
  | succ m ih =>
    by_cases e : l = m + 1
    · subst e
      rw [nsum_congr (g := f) fun a ha => by rw [if_pos (by omega)]]
      rfl
    · have h1 := ih (by omega)
      rw [nsum, nsum, if_neg (by omega : ¬ m < l)]
      simp only [nsum] at h1 ⊢
      omega
theorem nprod_shift (w : Nat → Nat) (m : Nat) : nprod w (m + 1) = w 0 * nprod (fun k => w (k + 1)) m := by
  induction m with
  | zero => simp [nprod]
  | succ m ih => rw [nprod, ih]; simp only [nprod, Nat.mul_assoc]
theorem nprod_le {f g : Nat → Nat} {n : Nat} (h : ∀ i, i < n → f i ≤ g i) : nprod f n ≤ nprod g n := by
  induction n with
  | zero => exact Nat.le_refl _
  | succ n ih => exact Nat.mul_le_mul (ih fun i hi => h i (by omega)) (h n (by omega))
theorem natAbs_sumN (f : Nat → Int) (n : Nat) : (sumN f n).natAbs ≤ nsum (fun i => (f i).natAbs) n := by
  induction n with
  | zero => exact Nat.le_refl _
  | succ n ih => simp only [sumN, nsum]; have := Int.natAbs_add_le (sumN f n) (f n); omega

/-! ### Determinants: slots hold vectors -/
def minorA (b : Nat → Nat → Int) (l : Nat) : Nat → Nat → Int := fun a k => b (if a < l then a else a + 1) (k + 1)
def sg (l : Nat) : Int := if l % 2 = 0 then 1 else -1
theorem sg_succ (l : Nat) : sg (l + 1) = - sg l := by
  unfold sg; by_cases h : l % 2 = 0
  · rw [if_pos h, if_neg (by omega)]
  · rw [if_neg h, if_pos (by omega)]; rfl
theorem sg_abs (l : Nat) : (sg l).natAbs = 1 := by unfold sg; split <;> rfl
def det : Nat → (Nat → Nat → Int) → Int
  | 0, _ => 1
  | m + 1, b => sumN (fun l => sg l * (b l 0 * det m (minorA b l))) (m + 1)
def updV (b : Nat → Nat → Int) (i : Nat) (v : Nat → Int) : Nat → Nat → Int := fun a => if a = i then v else b a
@[simp] theorem updV_self {b : Nat → Nat → Int} {i : Nat} {v : Nat → Int} : updV b i v i = v := by simp [updV]
theorem updV_ne {b : Nat → Nat → Int} {i a : Nat} {v : Nat → Int} (h : a ≠ i) : updV b i v a = b a := by simp [updV, h]
theorem updV_same {b : Nat → Nat → Int} {i : Nat} : updV b i (b i) = b := by funext a; by_cases h : a = i <;> simp [updV, h]
theorem updV_upd {b : Nat → Nat → Int} {i : Nat} {u v : Nat → Int} : updV (updV b i u) i v = updV b i v := by funext a; by_cases h : a = i <;> simp [updV, h]
theorem updV_comm {b : Nat → Nat → Int} {i j : Nat} {u v : Nat → Int} (hn : i ≠ j) : updV (updV b i u) j v = updV (updV b j v) i u := by
  funext a; by_cases h : a = i
  · subst h; simp [updV, hn]
  · by_cases k : a = j
    · subst k; simp [updV, h]
    · simp [updV, h, k]

theorem det_congr : ∀ {m : Nat} {b b' : Nat → Nat → Int}, (∀ a k, a < m → k < m → b a k = b' a k) → det m b = det m b' := by
  intro m
  induction m with
  | zero => intro b b' h; rfl
  | succ m ih =>
    intro b b' h
    simp only [det]
    refine sumN_congr fun l hl => ?_
    rw [h l 0 hl (by omega), ih fun a k ha hk => ?_]
    simp only [minorA]
    exact h _ _ (by split <;> omega) (by omega)
theorem minor_self {b : Nat → Nat → Int} {i : Nat} {v : Nat → Int} : minorA (updV b i v) i = minorA b i := by
  funext a k; simp only [minorA, updV]
  by_cases e : a < i
  · rw [if_pos e, if_neg (by omega)]
  · rw [if_neg e, if_neg (by omega)]
theorem minor_lt {b : Nat → Nat → Int} {i l : Nat} {v : Nat → Int} (h : i < l) : minorA (updV b i v) l = updV (minorA b l) i fun k => v (k + 1) := by
  funext a k; simp only [minorA, updV]
  by_cases ha : a = i
  · subst ha; rw [if_pos h, if_pos rfl, if_pos rfl]
  · by_cases e : a < l
    · rw [if_pos e, if_neg ha, if_neg ha]; simp only [minorA, if_pos e]
    · rw [if_neg e, if_neg (by omega), if_neg ha]; simp only [minorA, if_neg e]
theorem minor_gt {b : Nat → Nat → Int} {i l : Nat} {v : Nat → Int} (h : l < i) : minorA (updV b i v) l = updV (minorA b l) (i - 1) fun k => v (k + 1) := by
  funext a k; simp only [minorA, updV]
  by_cases ha : a = i - 1
  · rw [if_neg (by omega : ¬ a < l), if_pos (by omega), if_pos ha]
  · by_cases e : a < l
    · rw [if_pos e, if_neg (by omega), if_neg ha]; simp only [minorA, if_pos e]
    · rw [if_neg e, if_neg (by omega), if_neg ha]; simp only [minorA, if_neg e]

theorem det_lin : ∀ {m : Nat} {b : Nat → Nat → Int} {i : Nat} (x y : Int) (u v : Nat → Int), i < m →
    det m (updV b i fun k => x * u k + y * v k) = x * det m (updV b i u) + y * det m (updV b i v) := by
  intro m
  induction m with
  | zero => intro b i x y u v hi; omega
  | succ m ih =>
    intro b i x y u v hi
    simp only [det]
    rw [← sumN_lin]
    refine sumN_congr fun l hl => ?_
    by_cases e : l = i
    · subst e
      simp only [minor_self, updV_self]
      grind
    · rw [updV_ne e, updV_ne e, updV_ne e]
      by_cases e2 : i < l
      · rw [minor_lt e2, minor_lt e2, minor_lt e2, ih x y _ _ (by omega)]
        grind
      · rw [minor_gt (by omega), minor_gt (by omega), minor_gt (by omega), ih x y _ _ (by omega)]
        grind
theorem det_add {m : Nat} {b : Nat → Nat → Int} {i : Nat} (u v : Nat → Int) (hi : i < m) : det m (updV b i fun k => u k + v k) = det m (updV b i u) + det m (updV b i v) := by
  have := det_lin (b := b) 1 1 u v hi
  simpa using this
theorem det_smul {m : Nat} {b : Nat → Nat → Int} {i : Nat} (x : Int) (u : Nat → Int) (hi : i < m) : det m (updV b i fun k => x * u k) = x * det m (updV b i u) := by
  have := det_lin (b := b) x 0 u u hi
  simpa using this
theorem det_zero {m : Nat} {b : Nat → Nat → Int} {i : Nat} (hi : i < m) (h : ∀ k, k < m → b i k = 0) : det m b = 0 := by
  have := det_smul (b := b) 0 (b i) hi
  rw [Int.zero_mul] at this
  rw [← this]
  refine det_congr fun a k ha hk => ?_
  by_cases e : a = i
  · subst e; simp [h k hk]
  · rw [updV_ne e]
/-- A sum of vectors in a slot. -/
theorem det_sum {m : Nat} {b : Nat → Nat → Int} {i : Nat} (c : Nat → Int) (u : Nat → Nat → Int) (hi : i < m) (n : Nat) :
    det m (updV b i fun k => sumN (fun l => c l * u l k) n) = sumN (fun l => c l * det m (updV b i (u l))) n := by
  induction n with
  | zero => exact det_zero hi fun k hk => by simp [sumN]
  | succ n ih =>
    simp only [sumN]
    rw [det_add, ih, det_smul _ _ hi]
    exact hi

theorem det_adj : ∀ {m : Nat} {b : Nat → Nat → Int} {i : Nat}, i + 1 < m → b i = b (i + 1) → det m b = 0 := by
  intro m
  induction m with
  | zero => intro b i hi; omega
  | succ m ih =>
    intro b i hi h
    simp only [det]
    rw [sumN_two (i := i) (j := i + 1) (by omega) hi]
    · have e : minorA b i = minorA b (i + 1) := by
        funext a k
        simp only [minorA]
        by_cases e1 : a < i
        · rw [if_pos e1, if_pos (by omega)]
        · by_cases e2 : a = i
          · subst e2; rw [if_neg (by omega), if_pos (by omega), h]
          · rw [if_neg e1, if_neg (by omega)]
      rw [e, sg_succ, h]
      grind
    · intro l hl h1 h2
      by_cases e : l < i
      · rw [ih (i := i - 1) (by omega), Int.mul_zero, Int.mul_zero]
        funext k
        simp only [minorA]
        rw [if_neg (by omega), if_neg (by omega), show i - 1 + 1 = i by omega, h]
      · rw [ih (i := i) (by omega), Int.mul_zero, Int.mul_zero]
        funext k
        simp only [minorA]
        rw [if_pos (by omega), if_pos (by omega), h]
/-- Two slots that a family of vectors is alternating in are swapped with a sign. -/
theorem swap_of {m : Nat} {b : Nat → Nat → Int} {i j : Nat} (hi : i < m) (hj : j < m) (hn : i ≠ j) (h : ∀ w, det m (updV (updV b i w) j w) = 0) (u v : Nat → Int) :
    det m (updV (updV b i u) j v) = - det m (updV (updV b i v) j u) := by
  have e := h fun k => u k + v k
  rw [det_add _ _ hj, updV_comm hn, updV_comm hn, det_add _ _ hi, det_add _ _ hi, updV_comm hn.symm, updV_comm hn.symm, updV_comm hn.symm, updV_comm hn.symm, h u, h v] at e
  omega
theorem det_alt {m : Nat} : ∀ {b : Nat → Nat → Int} {i j : Nat}, i < j → j < m → b i = b j → det m b = 0 := by
  intro b i j hij
  obtain ⟨d, rfl⟩ : ∃ d, j = i + 1 + d := ⟨j - i - 1, by omega⟩
  clear hij
  induction d generalizing b with
  | zero => intro hj h; exact det_adj hj h
  | succ d ih =>
    intro hj h
    have e := swap_of (b := b) (i := i + 1 + d) (j := i + 1 + (d + 1)) (m := m) (by omega) hj (by omega) (fun w => det_adj (i := i + 1 + d) (by omega) (by
      show updV _ _ _ _ = updV _ (i + 1 + (d + 1)) _ (i + 1 + (d + 1))
      rw [updV_ne (by omega), updV_self, updV_self])) (b (i + 1 + d)) (b (i + 1 + (d + 1)))
    rw [updV_same, updV_same] at e
    rw [e, ih (by omega), Int.neg_zero]
    rw [updV_ne (by omega), updV_ne (by omega), updV_ne (by omega), updV_self, h]
theorem det_eq {m : Nat} {b : Nat → Nat → Int} {i j : Nat} (hn : i ≠ j) (hi : i < m) (hj : j < m) (h : b i = b j) : det m b = 0 := by
  by_cases e : i < j
  · exact det_alt e hj h
  · exact det_alt (by omega) hi h.symm
theorem det_swap {m : Nat} {b : Nat → Nat → Int} {i j : Nat} (hi : i < m) (hj : j < m) (hn : i ≠ j) (u v : Nat → Int) :
    det m (updV (updV b i u) j v) = - det m (updV (updV b i v) j u) :=
  swap_of hi hj hn (fun w => det_eq hn hi hj (by rw [updV_ne hn, updV_self, updV_self])) u v

def unitV (i : Nat) : Nat → Int := fun k => if k = i then 1 else 0
theorem det_unit (m : Nat) : det m unitV = 1 := by
  induction m with
  | zero => rfl
  | succ m ih =>
    simp only [det]
    rw [sumN_single (i := 0) (by omega)]
    · have : minorA unitV 0 = unitV := by
        funext a k; simp [minorA, unitV]
      rw [this, ih]; rfl
    · intro l hl h0
      have : unitV l 0 = 0 := by simp [unitV]; omega
      rw [this]; simp

/-- What bounds a determinant: for each coordinate a slot with its unit vector, or a sum. -/
def DetB (m : Nat) (b : Nat → Nat → Int) (w : Nat → Nat) : Prop :=
  ∀ k, k < m → ((∃ l, l < m ∧ ∀ k', k' < m → b l k' = unitV k k') ∧ 1 ≤ w k) ∨ nsum (fun l => (b l k).natAbs) m ≤ w k
theorem DetB.minor {m : Nat} {b : Nat → Nat → Int} {w : Nat → Nat} (h : DetB (m + 1) b w) {l : Nat} (hl : l < m + 1) (h0 : b l 0 ≠ 0) : DetB m (minorA b l) fun k => w (k + 1) := by
  intro k hk
  rcases h (k + 1) (by omega) with ⟨⟨l', hl', hu⟩, hw⟩ | hs
  · have hne : l' ≠ l := by
      intro e; subst e
      exact h0 (by rw [hu 0 (by omega)]; simp [unitV])
    refine .inl ⟨⟨if l' < l then l' else l' - 1, by split <;> omega, fun k' hk' => ?_⟩, hw⟩
    have : (if (if l' < l then l' else l' - 1) < l then (if l' < l then l' else l' - 1) else (if l' < l then l' else l' - 1) + 1) = l' := by
      by_cases e : l' < l
      · rw [if_pos e, if_pos e]
      · rw [if_neg e, if_neg (by omega)]; omega
    simp only [minorA, this, hu (k' + 1) (by omega), unitV, Nat.add_right_cancel_iff]
  · refine .inr (Nat.le_trans ?_ hs)
    have := nsum_skip (f := fun a => (b a (k + 1)).natAbs) hl
    simp only [minorA]
    omega
theorem det_bound : ∀ {m : Nat} {b : Nat → Nat → Int} {w : Nat → Nat}, DetB m b w → (det m b).natAbs ≤ nprod w m := by
  intro m
  induction m with
  | zero => intro b w h; exact Nat.le_refl _
  | succ m ih =>
    intro b w h
    rw [nprod_shift]
    simp only [det]
    rcases h 0 (by omega) with ⟨⟨l0, hl0, hu⟩, hw⟩ | hs
    · have h1 : b l0 0 = 1 := by rw [hu 0 (by omega)]; rfl
      rw [sumN_single (i := l0) hl0]
      · have h2 := ih (h.minor hl0 (by omega))
        rw [h1, Int.one_mul, Int.natAbs_mul, sg_abs, Nat.one_mul]
        exact Nat.le_trans h2 (Nat.le_mul_of_pos_left _ hw)
      · intro l hl hne
        rw [det_zero (m := m) (b := minorA b l) (i := if l0 < l then l0 else l0 - 1) (by split <;> omega), Int.mul_zero, Int.mul_zero]
        intro k hk
        have : (if (if l0 < l then l0 else l0 - 1) < l then (if l0 < l then l0 else l0 - 1) else (if l0 < l then l0 else l0 - 1) + 1) = l0 := by
          by_cases e : l0 < l
          · rw [if_pos e, if_pos e]
          · rw [if_neg e, if_neg (by omega)]; omega
        simp only [minorA, this, hu (k + 1) (by omega)]
        simp [unitV]
    · refine Nat.le_trans (natAbs_sumN _ _) (Nat.le_trans (nsum_le (g := fun l => (b l 0).natAbs * nprod (fun k => w (k + 1)) m) fun l hl => ?_) ?_)
      · rw [Int.natAbs_mul, sg_abs, Nat.one_mul, Int.natAbs_mul]
        by_cases h0 : b l 0 = 0
        · simp [h0]
        · exact Nat.mul_le_mul_left _ (ih (h.minor hl h0))
      · rw [nsum_mul]
        exact Nat.mul_le_mul_right _ hs
end Go.Ai
/- A tableau and its pivots: what stays, that the division is exact, and that entries are determinants. -/
namespace Go.Ai
set_option linter.unusedSimpArgs false
set_option linter.unusedVariables false

theorem sumN_other {f g : Nat → Int} {n r : Nat} (hr : r < n) (h : ∀ k, k < n → k ≠ r → f k = g k) : sumN f n = sumN g n + (f r - g r) := by
  have := sumN_single (f := fun k => f k + (-1) * g k) hr fun k hk hn => by simp only [h k hk hn]; omega
  rw [sumN_add, sumN_mul] at this
  omega
theorem sumN_pair {f : Nat → Int} {n i j : Nat} (hn : i ≠ j) (hi : i < n) (hj : j < n) (h : ∀ l, l < n → l ≠ i → l ≠ j → f l = 0) : sumN f n = f i + f j := by
  by_cases e : i < j
  · exact sumN_two e hj h
  · rw [sumN_two (by omega) hi fun l hl h1 h2 => h l hl h2 h1]; omega
theorem cancelZ {d a b : Int} (hd : d ≠ 0) (h : d * a = d * b) : a = b := Int.eq_of_mul_eq_mul_left hd h

structure Tab where
  t : Nat → Nat → Int
  den : Int
  bas : Nat → Option Nat

/-- The vector in a slot: the column of the basis, or the unit vector. -/
def slotV (T0 : Nat → Nat → Int) (bas : Nat → Option Nat) (k : Nat) : Nat → Int := match bas k with
  | some c => fun q => T0 q c
  | none => unitV k
theorem slotV_set {T0 : Nat → Nat → Int} {bas : Nat → Option Nat} {r c : Nat} : slotV T0 (fun i => if i = r then some c else bas i) = updV (slotV T0 bas) r fun q => T0 q c := by
  funext k
  by_cases e : k = r
  · subst e; rw [updV_self]; simp [slotV]
  · rw [updV_ne e]; simp [slotV, e]

structure TInv (m n : Nat) (T0 : Nat → Nat → Int) (s : Tab) : Prop where
  pos : 0 < s.den
  lin : ∀ i j, i < m → j < n + m + 1 → s.t i j = sumN (fun k => s.t i (n + k) * T0 k j) m
  cost : ∀ j, j < n + m + 1 → s.t m j = s.den * T0 m j + sumN (fun k => s.t m (n + k) * T0 k j) m
  sol : ∀ z : Nat → Int, (∀ i, i < m → sumN (fun j => s.t i j * z j) (n + m + 1) = 0) → ∀ i, i < m → sumN (fun j => T0 i j * z j) (n + m + 1) = 0
  out : ∀ i, m ≤ i → s.bas i = none
  basic : ∀ i c, s.bas i = some c → c < n ∧ s.t i c = s.den ∧ ∀ i', i' ≤ m → i' ≠ i → s.t i' c = 0
  sum : ∀ j q, j < n + m + 1 → q < m + 1 → sumN (fun k => s.t k j * slotV T0 s.bas k q) (m + 1) = s.den * T0 q j
  dets : ∃ e : Int, (e = 1 ∨ e = -1) ∧ e * s.den = det (m + 1) (slotV T0 s.bas)

variable {m n : Nat} {T0 : Nat → Nat → Int} {s : Tab}

theorem TInv.cramer (h : TInv m n T0 s) : ∃ e : Int, (e = 1 ∨ e = -1) ∧ e * s.den = det (m + 1) (slotV T0 s.bas) ∧
    ∀ i j, i < m + 1 → j < n + m + 1 → det (m + 1) (updV (slotV T0 s.bas) i fun q => T0 q j) = e * s.t i j := by
  obtain ⟨e, he, hd⟩ := h.dets
  refine ⟨e, he, hd, fun i j hi hj => ?_⟩
  have h0 : s.den ≠ 0 := by have := h.pos; omega
  refine cancelZ h0 ?_
  rw [← det_smul _ _ hi]
  have e1 : det (m + 1) (updV (slotV T0 s.bas) i fun q => s.den * T0 q j) = det (m + 1) (updV (slotV T0 s.bas) i fun q => sumN (fun k => s.t k j * slotV T0 s.bas k q) (m + 1)) := by
    refine det_congr fun a q ha hq => ?_
    by_cases ea : a = i
    · subst ea; rw [updV_self, updV_self, h.sum j q hj hq]
    · rw [updV_ne ea, updV_ne ea]
  rw [e1, det_sum _ _ hi, sumN_single hi]
  · rw [updV_same, ← hd]; grind
  · intro l hl hn
    rw [det_eq (i := i) (j := l) (fun h => hn h.symm) hi hl, Int.mul_zero]
    rw [updV_self, updV_ne hn]

/-- The division is exact. -/
theorem TInv.exact (h : TInv m n T0 s) {r c i j : Nat} (hr : r < m + 1) (hc : c < n + m + 1) (hi : i < m + 1) (hn : i ≠ r) (hj : j < n + m + 1) :
    ∃ d, s.den * d = s.t r c * s.t i j - s.t i c * s.t r j := by
  obtain ⟨e, he, hd, hx⟩ := h.cramer
  have key : s.den * det (m + 1) (updV (updV (slotV T0 s.bas) i fun q => T0 q j) r fun q => T0 q c) = e * (s.t r c * s.t i j - s.t i c * s.t r j) := by
    rw [← det_smul _ _ hr]
    have e1 : det (m + 1) (updV (updV (slotV T0 s.bas) i fun q => T0 q j) r fun q => s.den * T0 q c) = det (m + 1) (updV (updV (slotV T0 s.bas) i fun q => T0 q j) r fun q => sumN (fun k => s.t k c * slotV T0 s.bas k q) (m + 1)) := by
      refine det_congr fun a q ha hq => ?_
      by_cases ea : a = r
      · subst ea; rw [updV_self, updV_self, h.sum c q hc hq]
      · rw [updV_ne ea, updV_ne ea]
    rw [e1, det_sum _ _ hr, sumN_pair (i := r) (j := i) (fun h => hn h.symm) hr hi]
    · rw [updV_comm hn, updV_same, hx i j hi hj]
      rw [det_swap hi hr hn, updV_same, hx r j hr hj]
      grind
    · intro l hl h1 h2
      rw [det_eq (i := r) (j := l) (fun h => h1 h.symm) hr hl, Int.mul_zero]
      rw [updV_self, updV_ne h1, updV_ne h2]
  rcases he with rfl | rfl
  · exact ⟨_, by rw [key]; omega⟩
  · exact ⟨- det (m + 1) (updV (updV (slotV T0 s.bas) i fun q => T0 q j) r fun q => T0 q c), by rw [Int.mul_neg, key]; omega⟩

/-! ### A pivot -/
def sgnP (p : Int) : Int := if p < 0 then -1 else 1
theorem sgnP_pos {p : Int} (h : p ≠ 0) : 0 < sgnP p * p := by unfold sgnP; split <;> omega
theorem sgnP_cases (p : Int) : sgnP p = 1 ∨ sgnP p = -1 := by unfold sgnP; split <;> simp
/-- The entries before the sign is put right. -/
def rawT (s : Tab) (r c : Nat) (i j : Nat) : Int := if i = r then s.t r j else (s.t r c * s.t i j - s.t i c * s.t r j) / s.den
def stepT (s : Tab) (r c : Nat) : Tab where
  t := fun i j => sgnP (s.t r c) * rawT s r c i j
  den := sgnP (s.t r c) * s.t r c
  bas := fun i => if i = r then some c else s.bas i

theorem TInv.raw (h : TInv m n T0 s) {r c i j : Nat} (hr : r < m + 1) (hc : c < n + m + 1) (hi : i < m + 1) (hn : i ≠ r) (hj : j < n + m + 1) :
    s.den * rawT s r c i j = s.t r c * s.t i j - s.t i c * s.t r j := by
  obtain ⟨d, hd⟩ := h.exact hr hc hi hn hj
  have h0 : s.den ≠ 0 := by have := h.pos; omega
  rw [rawT, if_neg hn, ← hd, Int.mul_ediv_cancel_left _ h0]

/-- A row that is a sum of the first rows, with d times that of the costs. -/
def LinR (m n : Nat) (T0 : Nat → Nat → Int) (d : Int) (ρ : Nat → Int) : Prop := ∀ j, j < n + m + 1 → ρ j = d * T0 m j + sumN (fun k => ρ (n + k) * T0 k j) m
theorem LinR.comb {d d' D p f : Int} {ρ σ τ : Nat → Int} (h1 : LinR m n T0 d ρ) (h2 : LinR m n T0 0 σ) (h0 : D ≠ 0) (h : ∀ j, j < n + m + 1 → D * τ j = p * ρ j - f * σ j) (hd : D * d' = p * d) : LinR m n T0 d' τ := by
  intro j hj
  refine cancelZ h0 ?_
  have e : D * sumN (fun k => τ (n + k) * T0 k j) m = p * sumN (fun k => ρ (n + k) * T0 k j) m + (-f) * sumN (fun k => σ (n + k) * T0 k j) m := by
    rw [← sumN_mul, ← sumN_lin]
    refine sumN_congr fun k hk => ?_
    rw [← Int.mul_assoc, h (n + k) (by omega)]
    generalize ρ (n + k) = x
    generalize σ (n + k) = y
    generalize T0 k j = z
    grind
  rw [h j hj, Int.mul_add, ← Int.mul_assoc, hd, e, h1 j hj, h2 j hj]
  generalize sumN (fun k => ρ (n + k) * T0 k j) m = x
  generalize sumN (fun k => σ (n + k) * T0 k j) m = y
  generalize T0 m j = z
  grind
theorem LinR.smul {d e : Int} {ρ : Nat → Int} (h : LinR m n T0 d ρ) : LinR m n T0 (e * d) fun j => e * ρ j := by
  intro j hj
  simp only
  rw [h j hj, sumN_congr (f := fun k => e * ρ (n + k) * T0 k j) (g := fun k => e * (ρ (n + k) * T0 k j)) fun k hk => by rw [Int.mul_assoc], sumN_mul]
  grind
theorem TInv.rows (h : TInv m n T0 s) {i : Nat} (hi : i < m) : LinR m n T0 0 (s.t i) := fun j hj => by rw [Int.zero_mul, Int.zero_add]; exact h.lin i j hi hj
theorem TInv.costs (h : TInv m n T0 s) : LinR m n T0 s.den (s.t m) := h.cost

theorem TInv.step (h : TInv m n T0 s) {r c : Nat} (hr : r < m) (hc : c < n) (hp : s.t r c ≠ 0) : TInv m n T0 (stepT s r c) := by
  have h0 : s.den ≠ 0 := by have := h.pos; omega
  have hg : sgnP (s.t r c) ≠ 0 := by rcases sgnP_cases (s.t r c) with e | e <;> omega
  have raw := fun i j (hi : i < m + 1) (hn : i ≠ r) (hj : j < n + m + 1) => h.raw (r := r) (c := c) (by omega) (by omega) hi hn hj
  have rawr : ∀ j, rawT s r c r j = s.t r j := fun j => by rw [rawT, if_pos rfl]
  have lr : ∀ i, i < m → LinR m n T0 0 (rawT s r c i) := by
    intro i hi
    by_cases e : i = r
    · subst e; rw [show rawT s i c i = s.t i from funext rawr]; exact h.rows hi
    · exact (h.rows hi).comb (h.rows hr) h0 (fun j hj => raw i j (by omega) e hj) (by rw [Int.mul_zero, Int.mul_zero])
  have lm : LinR m n T0 (s.t r c) (rawT s r c m) :=
    h.costs.comb (h.rows hr) h0 (fun j hj => raw m j (by omega) (by omega) hj) (Int.mul_comm _ _)
  refine ⟨sgnP_pos hp, ?_, lm.smul, ?_, ?_, ?_, ?_, ?_⟩
  · intro i j hi hj
    have := (lr i hi).smul (e := sgnP (s.t r c)) j hj
    simpa [stepT] using this
  · intro z hz
    have hz' : ∀ i, i < m → sumN (fun j => rawT s r c i j * z j) (n + m + 1) = 0 := by
      intro i hi
      refine cancelZ hg ?_
      rw [← sumN_mul, Int.mul_zero, ← hz i hi]
      exact sumN_congr fun j hj => by simp only [stepT]; grind
    have hzr : sumN (fun j => s.t r j * z j) (n + m + 1) = 0 := by
      rw [← hz' r hr]; exact sumN_congr fun j hj => by rw [rawr]
    refine h.sol z fun i hi => ?_
    by_cases e : i = r
    · subst e; exact hzr
    · refine cancelZ hp ?_
      have e1 : s.den * sumN (fun j => rawT s r c i j * z j) (n + m + 1) = s.t r c * sumN (fun j => s.t i j * z j) (n + m + 1) + (-s.t i c) * sumN (fun j => s.t r j * z j) (n + m + 1) := by
        rw [← sumN_mul, ← sumN_lin]
        exact sumN_congr fun j hj => by rw [← Int.mul_assoc, raw i j (by omega) e hj]; grind
      rw [hz' i hi, hzr] at e1
      omega
  · intro i hi
    simp only [stepT]
    rw [if_neg (by omega)]
    exact h.out i hi
  · intro i c' hb
    simp only [stepT] at hb ⊢
    by_cases e : i = r
    · subst e
      rw [if_pos rfl] at hb
      cases hb
      refine ⟨hc, by rw [rawr], fun i' hi' hn => ?_⟩
      have := raw i' c (by omega) hn (by omega)
      have hz : s.den * rawT s i c i' c = s.den * 0 := by rw [this]; grind
      rw [cancelZ h0 hz, Int.mul_zero]
    · rw [if_neg e] at hb
      have hi : i < m := by
        refine Classical.byContradiction fun hn => ?_
        rw [h.out i (by omega)] at hb; cases hb
      obtain ⟨k1, k2, k3⟩ := h.basic i c' hb
      refine ⟨k1, ?_, fun i' hi' hn => ?_⟩
      · congr 1
        refine cancelZ h0 ?_
        rw [raw i c' (by omega) e (by omega), k2, k3 r (by omega) (fun h => e h.symm)]
        grind
      · have : rawT s r c i' c' = 0 := by
          by_cases e2 : i' = r
          · subst e2; rw [rawr]; exact k3 _ hi' hn
          · refine cancelZ h0 ?_
            rw [raw i' c' (by omega) e2 (by omega), k3 i' hi' hn, k3 r (by omega) (fun h => e h.symm)]
            grind
        rw [this, Int.mul_zero]
  · intro j q hj hq
    have e1 : sumN (fun k => rawT s r c k j * slotV T0 (stepT s r c).bas k q) (m + 1) = s.t r c * T0 q j := by
      refine cancelZ h0 ?_
      rw [← sumN_mul]
      have e2 := sumN_other (f := fun k => s.den * (rawT s r c k j * slotV T0 (stepT s r c).bas k q)) (g := fun k => s.t r c * (s.t k j * slotV T0 s.bas k q) + (-s.t r j) * (s.t k c * slotV T0 s.bas k q)) (n := m + 1) (r := r) (by omega) fun k hk hn => by
        simp only [stepT]
        rw [slotV_set, updV_ne hn, ← Int.mul_assoc, raw k j hk hn hj]
        grind
      rw [e2, sumN_lin, h.sum j q hj hq, h.sum c q (by omega) hq]
      simp only [rawr, stepT]
      rw [slotV_set, updV_self]
      grind
    simp only [stepT] at e1 ⊢
    rw [sumN_congr (g := fun k => sgnP (s.t r c) * (rawT s r c k j * slotV T0 (fun i => if i = r then some c else s.bas i) k q)) fun k hk => by grind, sumN_mul, e1]
    grind
  · obtain ⟨e, he, hd, hx⟩ := h.cramer
    refine ⟨e * sgnP (s.t r c), ?_, ?_⟩
    · rcases he with rfl | rfl <;> rcases sgnP_cases (s.t r c) with e2 | e2 <;> rw [e2] <;> simp
    · simp only [stepT]
      rw [slotV_set, hx r c (by omega) (by omega)]
      rcases sgnP_cases (s.t r c) with e2 | e2 <;> rw [e2] <;> grind
end Go.Ai
/- The entries of a tableau are bounded by the size of the program. -/
namespace Go.Ai
set_option linter.unusedSimpArgs false
set_option linter.unusedVariables false

theorem nsum_zeroed {g : Nat → Nat} {N c : Nat} (hc : c < N) : nsum (fun j => if j = c then 0 else g j) N + g c = nsum g N := by
  induction N with
  | zero => omega
  | succ N ih =>
    simp only [nsum]
    by_cases e : c = N
    · subst e
      rw [nsum_congr (g := g) fun j hj => if_neg (by omega), if_pos rfl]; omega
    · have := ih (by omega)
      rw [if_neg (by omega : ¬ N = c)]; omega
def colG (g : Nat → Nat) : Option Nat → Nat
  | some c => g c
  | none => 0
/-- A sum over different columns is at most that over all. -/
theorem nsum_inj {col : Nat → Option Nat} {N : Nat} : ∀ {M : Nat} {g : Nat → Nat}, (∀ l c, l < M → col l = some c → c < N) → (∀ l l' c, l < M → l' < M → col l = some c → col l' = some c → l = l') →
    nsum (fun l => colG g (col l)) M ≤ nsum g N := by
  intro M
  induction M with
  | zero => intro g h1 h2; exact Nat.zero_le _
  | succ M ih =>
    intro g h1 h2
    simp only [nsum]
    cases hc : col M with
    | none =>
      have := ih (g := g) (fun l c hl => h1 l c (by omega)) fun l l' c hl hl' => h2 l l' c (by omega) (by omega)
      rw [show colG g none = 0 from rfl]; omega
    | some c =>
      have h3 := ih (g := fun j => if j = c then 0 else g j) (fun l c hl => h1 l c (by omega)) fun l l' c hl hl' => h2 l l' c (by omega) (by omega)
      have h4 := nsum_zeroed (g := g) (h1 M c (by omega) hc)
      have h5 : nsum (fun l => colG (fun j => if j = c then 0 else g j) (col l)) M = nsum (fun l => colG g (col l)) M := by
        refine nsum_congr fun l hl => ?_
        cases hl' : col l with
        | none => rfl
        | some c' =>
          simp only [colG]
          rw [if_neg]
          intro e; subst e
          have := h2 l M c' (by omega) (by omega) hl' hc
          omega
      rw [show colG g (some c) = g c from rfl]
      omega

variable {m n : Nat} {T0 : Nat → Nat → Int} {s : Tab}

/-- The weight of a coordinate. -/
def rowW (m n : Nat) (T0 : Nat → Nat → Int) (k : Nat) : Nat := max 1 (nsum (fun j => (T0 k j).natAbs) n + (T0 k (n + m)).natAbs)
def entG (m n : Nat) (T0 : Nat → Nat → Int) (k : Nat) (j : Nat) : Nat := if j < n ∨ j = n + m then (T0 k j).natAbs else 0
theorem nsum_zero {g : Nat → Nat} {n : Nat} (h : ∀ i, i < n → g i = 0) : nsum g n = 0 := by
  induction n with
  | zero => rfl
  | succ n ih => simp only [nsum]; rw [ih fun i hi => h i (by omega), h n (by omega)]
theorem nsum_split {g : Nat → Nat} {n m : Nat} : nsum g (n + m) = nsum g n + nsum (fun k => g (n + k)) m := by
  induction m with
  | zero => simp [nsum]
  | succ m ih => rw [← Nat.add_assoc, nsum, ih, nsum]; omega
theorem entG_sum (k : Nat) : nsum (entG m n T0 k) (n + m + 1) = nsum (fun j => (T0 k j).natAbs) n + (T0 k (n + m)).natAbs := by
  rw [nsum, nsum_split, nsum_zero (g := fun k' => entG m n T0 k (n + k')) fun k' hk' => by simp only [entG]; rw [if_neg (by omega)], nsum_congr (g := fun j => (T0 k j).natAbs) fun j hj => by simp only [entG]; rw [if_pos (.inl hj)]]
  simp [entG]

theorem DetB_of {b : Nat → Nat → Int} {col : Nat → Option Nat}
    (h1 : ∀ l c, l < m + 1 → col l = some c → (c < n ∨ c = n + m) ∧ ∀ q, q < m + 1 → b l q = T0 q c)
    (h2 : ∀ l, l < m + 1 → col l = none → ∃ u, ∀ q, q < m + 1 → b l q = unitV u q)
    (h3 : ∀ l l' c, l < m + 1 → l' < m + 1 → col l = some c → col l' = some c → l = l') : DetB (m + 1) b (rowW m n T0) := by
  intro k hk
  by_cases hu : ∃ l, l < m + 1 ∧ ∀ q, q < m + 1 → b l q = unitV k q
  · exact .inl ⟨hu, by unfold rowW; omega⟩
  · refine .inr ?_
    have e : nsum (fun l => (b l k).natAbs) (m + 1) = nsum (fun l => colG (entG m n T0 k) (col l)) (m + 1) := by
      refine nsum_congr fun l hl => ?_
      cases hc : col l with
      | some c =>
        obtain ⟨k1, k2⟩ := h1 l c hl hc
        simp only [colG, entG]
        rw [k2 k hk, if_pos k1]
      | none =>
        obtain ⟨u, k2⟩ := h2 l hl hc
        have hne : k ≠ u := by
          intro e; subst e; exact hu ⟨l, hl, k2⟩
        simp only [colG]
        rw [k2 k hk, unitV, if_neg hne]; rfl
    rw [e]
    refine Nat.le_trans (nsum_inj (N := n + m + 1) (fun l c hl hc => ?_) h3) ?_
    · have := (h1 l c hl hc).1; omega
    · rw [entG_sum]; unfold rowW; omega

theorem TInv.inj (h : TInv m n T0 s) {l l' c : Nat} (h1 : s.bas l = some c) (h2 : s.bas l' = some c) : l = l' := by
  refine Classical.byContradiction fun hn => ?_
  have hl : l' < m := Classical.byContradiction fun hk => by rw [h.out l' (by omega)] at h2; cases h2
  have k1 := (h.basic l c h1).2.2 l' (by omega) fun e => hn e.symm
  have k2 := (h.basic l' c h2).2.1
  have := h.pos
  omega
theorem abs_of_sign {e x y : Int} (he : e = 1 ∨ e = -1) (h : e * x = y) : x.natAbs = y.natAbs := by
  rcases he with rfl | rfl <;> omega

theorem TInv.denBound (h : TInv m n T0 s) : s.den.natAbs ≤ nprod (rowW m n T0) (m + 1) := by
  obtain ⟨e, he, hd⟩ := h.dets
  rw [abs_of_sign he hd]
  refine det_bound (DetB_of (col := s.bas) (fun l c hl hc => ⟨.inl (h.basic l c hc).1, fun q hq => by simp [slotV, hc]⟩) (fun l hl hc => ⟨l, fun q hq => by simp [slotV, hc]⟩) fun l l' c _ _ h1 h2 => h.inj h1 h2)
/-- Entries are bounded. -/
theorem TInv.bound (h : TInv m n T0 s) (hid : ∀ i k, i < m + 1 → k < m → T0 i (n + k) = unitV k i) {i j : Nat} (hi : i < m + 1) (hj : j < n + m + 1) : (s.t i j).natAbs ≤ nprod (rowW m n T0) (m + 1) := by
  obtain ⟨e, he, hd, hx⟩ := h.cramer
  rw [abs_of_sign he (hx i j hi hj).symm]
  by_cases hb : ∃ l, l ≠ i ∧ s.bas l = some j
  · obtain ⟨l, hne, hl⟩ := hb
    have : s.t i j = 0 := (h.basic l j hl).2.2 i (by omega) fun e => hne e.symm
    rw [hx i j hi hj, this, Int.mul_zero]
    exact Nat.zero_le _
  · refine det_bound (DetB_of (col := fun l => if l = i then (if j < n ∨ j = n + m then some j else none) else s.bas l) ?_ ?_ ?_)
    · intro l c hl hc
      by_cases e : l = i
      · subst e
        simp only [if_pos] at hc
        split at hc
        · rename_i hj'; cases hc; exact ⟨hj', fun q hq => by rw [updV_self]⟩
        · cases hc
      · simp only [if_neg e] at hc
        exact ⟨.inl (h.basic l c hc).1, fun q hq => by rw [updV_ne e]; simp [slotV, hc]⟩
    · intro l hl hc
      by_cases e : l = i
      · subst e
        simp only [if_pos] at hc
        split at hc
        · cases hc
        · rename_i hj'
          refine ⟨j - n, fun q hq => ?_⟩
          rw [updV_self]
          have := hid q (j - n) hq (by omega)
          rw [show n + (j - n) = j by omega] at this
          rw [this]
      · simp only [if_neg e] at hc
        exact ⟨l, fun q hq => by rw [updV_ne e]; simp [slotV, hc]⟩
    · intro l l' c hl hl' h1 h2
      by_cases e : l = i
      · by_cases e' : l' = i
        · omega
        · subst e
          simp only [if_pos, if_neg e'] at h1 h2
          split at h1
          · cases h1; exact absurd ⟨l', e', h2⟩ hb
          · cases h1
      · by_cases e' : l' = i
        · subst e'
          simp only [if_pos, if_neg e] at h1 h2
          split at h2
          · cases h2; exact absurd ⟨l, e, h1⟩ hb
          · cases h2
        · simp only [if_neg e, if_neg e'] at h1 h2
          exact h.inj h1 h2

/-- The first tableau. -/
def tab0 (T0 : Nat → Nat → Int) : Tab := { t := T0, den := 1, bas := fun _ => none }
theorem sumN_unit {f : Nat → Int} {n i : Nat} (hi : i < n) : sumN (fun k => f k * unitV i k) n = f i := by
  rw [sumN_single hi fun l hl hn => by simp [unitV, hn]]; simp [unitV]
theorem TInv.zero (hid : ∀ i k, i < m + 1 → k < m → T0 i (n + k) = unitV k i) : TInv m n T0 (tab0 T0) := by
  refine ⟨(by show (0:Int) < 1; decide), fun i j hi hj => ?_, fun j hj => ?_, fun z hz => hz, fun i hi => rfl, fun i c h => (by cases h), fun j q hj hq => ?_, 1, .inl rfl, ?_⟩
  · simp only [tab0]
    rw [sumN_congr (g := fun k => T0 k j * unitV i k) fun k hk => by rw [hid i k (by omega) hk, Int.mul_comm]; simp only [unitV, eq_comm]]
    rw [sumN_unit hi]
  · simp only [tab0]
    rw [sumN_zero fun k hk => by rw [hid m k (by omega) hk, unitV, if_neg (by omega), Int.zero_mul]]
    omega
  · show sumN (fun k => T0 k j * unitV k q) (m + 1) = 1 * T0 q j
    rw [sumN_congr (g := fun k => T0 k j * unitV q k) fun k hk => by simp only [unitV, eq_comm]]
    rw [sumN_unit hq]; omega
  · show 1 * 1 = det (m + 1) unitV
    rw [det_unit]; rfl
end Go.Ai
/- What a tableau says of its program: solutions, directions, sums of rows. -/
namespace Go.Ai
set_option linter.unusedSimpArgs false
set_option linter.unusedVariables false
variable {m n : Nat} {T0 : Nat → Nat → Int} {s : Tab}

theorem sumN_split {g : Nat → Int} {n m : Nat} : sumN g (n + m) = sumN g n + sumN (fun k => g (n + k)) m := by
  induction m with
  | zero => simp [sumN]
  | succ m ih => rw [← Nat.add_assoc, sumN, ih, sumN]; omega

/-- Numbers that solve the program's rows, with its right side d times. -/
def NullZ (m n : Nat) (T0 : Nat → Nat → Int) (z : Nat → Int) (d : Int) : Prop := ∀ i, i < m → sumN (fun j => T0 i j * z j) n = d * T0 i (n + m)

theorem TInv.nullOf (h : TInv m n T0 s) {z : Nat → Int} {d : Int} (hz : ∀ i, i < m → sumN (fun j => s.t i j * z j) n = d * s.t i (n + m)) : NullZ m n T0 z d := by
  have e : ∀ f : Nat → Int, sumN (fun j => f j * (if j < n then z j else if j = n + m then -d else 0)) (n + m + 1) = sumN (fun j => f j * z j) n - d * f (n + m) := by
    intro f
    rw [sumN, sumN_split, sumN_zero (f := fun k => f (n + k) * _) fun k hk => by rw [if_neg (by omega), if_neg (by omega), Int.mul_zero]]
    rw [sumN_congr (g := fun j => f j * z j) fun j hj => by rw [if_pos hj], if_neg (by omega), if_pos rfl]
    grind
  intro i hi
  have := h.sol (fun j => if j < n then z j else if j = n + m then -d else 0) (fun i hi => by rw [e, hz i hi]; omega) i hi
  rw [e] at this
  omega
theorem TInv.linSum (h : TInv m n T0 s) {z : Nat → Int} {d D : Int} {ρ : Nat → Int} (hl : LinR m n T0 D ρ) (hz : NullZ m n T0 z d) :
    sumN (fun j => ρ j * z j) n = D * sumN (fun j => T0 m j * z j) n + d * sumN (fun k => ρ (n + k) * T0 k (n + m)) m := by
  have e1 : sumN (fun j => ρ j * z j) n = sumN (fun j => D * (T0 m j * z j) + 1 * sumN (fun k => ρ (n + k) * (T0 k j * z j)) m) n := by
    refine sumN_congr fun j hj => ?_
    rw [hl j (by omega)]
    rw [sumN_congr (f := fun k => ρ (n + k) * (T0 k j * z j)) (g := fun k => z j * (ρ (n + k) * T0 k j)) fun k hk => by grind, sumN_mul]
    grind
  rw [e1, sumN_lin, sumN_swap, Int.one_mul, ← sumN_mul d]
  congr 1
  refine sumN_congr fun k hk => ?_
  rw [sumN_mul, hz k hk]
  grind
theorem TInv.rowNull (h : TInv m n T0 s) {z : Nat → Int} {d : Int} (hz : NullZ m n T0 z d) {i : Nat} (hi : i < m) :
    sumN (fun j => s.t i j * z j) n = d * s.t i (n + m) := by
  rw [h.linSum (h.rows hi) hz, h.lin i (n + m) hi (by omega)]; omega
theorem TInv.costNull (h : TInv m n T0 s) (hc : T0 m (n + m) = 0) {z : Nat → Int} {d : Int} (hz : NullZ m n T0 z d) :
    sumN (fun j => s.t m j * z j) n = s.den * sumN (fun j => T0 m j * z j) n + d * s.t m (n + m) := by
  rw [h.linSum h.costs hz, h.cost (n + m) (by omega), hc, Int.mul_zero, Int.zero_add]

/-! ### The solution and the ray of a tableau -/
def rowOf (s : Tab) (m j : Nat) : Option Nat := (List.range m).find? fun i => decide (s.bas i = some j)
theorem TInv.rowOf_some (h : TInv m n T0 s) {i j : Nat} : rowOf s m j = some i ↔ s.bas i = some j := by
  unfold rowOf
  constructor
  · intro e
    have := List.find?_some e
    simpa using this
  · intro e
    have hi : i < m := Classical.byContradiction fun hk => by rw [h.out i (by omega)] at e; cases e
    cases hf : (List.range m).find? fun i => decide (s.bas i = some j) with
    | none =>
      have := List.find?_eq_none.1 hf i (List.mem_range.2 hi)
      simp [e] at this
    | some i' =>
      have := List.find?_some hf
      have this : s.bas i' = some j := by simpa using this
      rw [h.inj this e]
theorem TInv.rowOf_none (h : TInv m n T0 s) {j : Nat} : rowOf s m j = none ↔ ∀ i, s.bas i ≠ some j := by
  constructor
  · intro e i hi
    rw [h.rowOf_some.2 hi] at e; cases e
  · intro e
    cases hr : rowOf s m j with
    | none => rfl
    | some i => exact absurd (h.rowOf_some.1 hr) (e i)
def xB (s : Tab) (m n : Nat) (j : Nat) : Int := match rowOf s m j with
  | some i => s.t i (n + m)
  | none => 0
def wayB (s : Tab) (m k : Nat) (j : Nat) : Int := if j = k then s.den else match rowOf s m j with
  | some i => - s.t i k
  | none => 0
/-- Rows without a column of the basis are zero. -/
def ZeroR (m n : Nat) (s : Tab) : Prop := ∀ i, i < m → s.bas i = none → (∀ j, j < n → s.t i j = 0) ∧ s.t i (n + m) = 0
theorem xB_in (h : TInv m n T0 s) {i c : Nat} (hb : s.bas i = some c) : xB s m n c = s.t i (n + m) := by rw [xB, h.rowOf_some.2 hb]
theorem xB_out (h : TInv m n T0 s) {c : Nat} (hb : ∀ i, s.bas i ≠ some c) : xB s m n c = 0 := by rw [xB, h.rowOf_none.2 hb]
theorem wayB_ray {k : Nat} : wayB s m k k = s.den := by rw [wayB, if_pos rfl]
theorem wayB_in (h : TInv m n T0 s) {i c k : Nat} (hb : s.bas i = some c) (hk : ∀ i, s.bas i ≠ some k) : wayB s m k c = - s.t i k := by
  rw [wayB, if_neg, h.rowOf_some.2 hb]
  intro e; subst e; exact hk i hb
theorem wayB_out (h : TInv m n T0 s) {c k : Nat} (hb : ∀ i, s.bas i ≠ some c) (hn : c ≠ k) : wayB s m k c = 0 := by rw [wayB, if_neg hn, h.rowOf_none.2 hb]

theorem TInv.xNull (h : TInv m n T0 s) (hz : ZeroR m n s) : NullZ m n T0 (xB s m n) s.den := by
  refine h.nullOf fun i hi => ?_
  cases hb : s.bas i with
  | none =>
    obtain ⟨z1, z2⟩ := hz i hi hb
    rw [z2, sumN_zero fun j hj => by rw [z1 j hj, Int.zero_mul], Int.mul_zero]
  | some c =>
    obtain ⟨k1, k2, k3⟩ := h.basic i c hb
    rw [sumN_single (i := c) k1, xB_in h hb, k2]
    intro j hj hn
    cases hr : rowOf s m j with
    | none => rw [xB, hr, Int.mul_zero]
    | some i' =>
      have h1 := h.rowOf_some.1 hr
      have : i ≠ i' := fun e => by subst e; rw [hb] at h1; cases h1; exact hn rfl
      rw [(h.basic i' j h1).2.2 i (by omega) this, Int.zero_mul]
theorem TInv.wayNull (h : TInv m n T0 s) (hz : ZeroR m n s) {k : Nat} (hkn : k < n) (hk : ∀ i, s.bas i ≠ some k) : NullZ m n T0 (wayB s m k) 0 := by
  refine h.nullOf fun i hi => ?_
  rw [Int.zero_mul]
  cases hb : s.bas i with
  | none =>
    obtain ⟨z1, z2⟩ := hz i hi hb
    rw [sumN_zero fun j hj => by rw [z1 j hj, Int.zero_mul]]
  | some c =>
    obtain ⟨k1, k2, k3⟩ := h.basic i c hb
    have hck : c ≠ k := fun e => by subst e; exact hk i hb
    rw [sumN_pair (i := c) (j := k) hck k1 hkn, wayB_in h hb hk, wayB_ray, k2]
    · grind
    intro j hj hn hn2
    cases hr : rowOf s m j with
    | none => rw [wayB_out h (h.rowOf_none.1 hr) hn2, Int.mul_zero]
    | some i' =>
      have h1 := h.rowOf_some.1 hr
      have : i ≠ i' := fun e => by subst e; rw [hb] at h1; cases h1; exact hn rfl
      rw [(h.basic i' j h1).2.2 i (by omega) this, Int.zero_mul]
theorem TInv.basCost (h : TInv m n T0 s) {i c : Nat} (hb : s.bas i = some c) : s.t m c = 0 := by
  have hi : i < m := Classical.byContradiction fun hk => by rw [h.out i (by omega)] at hb; cases hb
  exact (h.basic i c hb).2.2 m (by omega) (by omega)
theorem TInv.xCost (h : TInv m n T0 s) : sumN (fun j => s.t m j * xB s m n j) n = 0 := by
  refine sumN_zero fun j hj => ?_
  cases hr : rowOf s m j with
  | none => rw [xB, hr, Int.mul_zero]
  | some i' => rw [h.basCost (h.rowOf_some.1 hr), Int.zero_mul]
theorem TInv.wayCost (h : TInv m n T0 s) {k : Nat} (hkn : k < n) (hk : ∀ i, s.bas i ≠ some k) : sumN (fun j => s.t m j * wayB s m k j) n = s.den * s.t m k := by
  rw [sumN_single (i := k) hkn, wayB_ray, Int.mul_comm]
  intro j hj hn
  cases hr : rowOf s m j with
  | none => rw [wayB_out h (h.rowOf_none.1 hr) hn, Int.mul_zero]
  | some i' => rw [h.basCost (h.rowOf_some.1 hr), Int.zero_mul]

/-! ### Results -/
theorem TInv.isEmpty (h : TInv m n T0 s) {i : Nat} (hi : i < m) {e : Int} (h1 : ∀ j, j < n → 0 ≤ e * s.t i j) (h2 : e * s.t i (n + m) < 0) :
    (∀ j, j < n → 0 ≤ sumN (fun k => e * s.t i (n + k) * T0 k j) m) ∧ sumN (fun k => e * s.t i (n + k) * T0 k (n + m)) m < 0 := by
  have l : ∀ j, j < n + m + 1 → sumN (fun k => e * s.t i (n + k) * T0 k j) m = e * s.t i j := fun j hj => by
    rw [h.lin i j hi hj, ← sumN_mul]; exact sumN_congr fun k hk => Int.mul_assoc _ _ _
  exact ⟨fun j hj => by rw [l j (by omega)]; exact h1 j hj, by rw [l _ (by omega)]; exact h2⟩
theorem TInv.isOptimal (h : TInv m n T0 s) (hc : T0 m (n + m) = 0) (hz : ZeroR m n s) (h1 : ∀ i c, s.bas i = some c → 0 ≤ s.t i (n + m)) (h2 : ∀ j, j < n → 0 ≤ s.t m j) :
    (∀ j, j < n → 0 ≤ xB s m n j) ∧ NullZ m n T0 (xB s m n) s.den ∧ (∀ j, j < n → sumN (fun k => - s.t m (n + k) * T0 k j) m ≤ s.den * T0 m j) ∧
    sumN (fun j => T0 m j * xB s m n j) n = sumN (fun k => - s.t m (n + k) * T0 k (n + m)) m := by
  have l : ∀ j, j < n + m + 1 → sumN (fun k => - s.t m (n + k) * T0 k j) m = s.den * T0 m j - s.t m j := fun j hj => by
    rw [sumN_congr (g := fun k => (-1) * (s.t m (n + k) * T0 k j)) fun k hk => by grind, sumN_mul, h.cost j hj]; omega
  refine ⟨fun j hj => ?_, h.xNull hz, fun j hj => ?_, ?_⟩
  · cases hr : rowOf s m j with
    | none => rw [xB, hr]; exact Int.le_refl _
    | some i => rw [xB, hr]; exact h1 i j (h.rowOf_some.1 hr)
  · rw [l j (by omega)]; have := h2 j hj; omega
  · have e := h.costNull hc (h.xNull hz)
    rw [h.xCost, ← Int.mul_add] at e
    rw [l _ (by omega), hc]
    have h0 : s.den ≠ 0 := by have := h.pos; omega
    rcases Int.mul_eq_zero.1 e.symm with e | e
    · exact absurd e h0
    · omega
theorem TInv.isRay (h : TInv m n T0 s) (hc : T0 m (n + m) = 0) (hz : ZeroR m n s) {k : Nat} (hkn : k < n) (hk : ∀ i, s.bas i ≠ some k) (h1 : ∀ i c, s.bas i = some c → s.t i k ≤ 0) (h2 : s.t m k < 0) :
    (∀ j, j < n → 0 ≤ wayB s m k j) ∧ NullZ m n T0 (wayB s m k) 0 ∧ sumN (fun j => T0 m j * wayB s m k j) n < 0 := by
  refine ⟨fun j hj => ?_, h.wayNull hz hkn hk, ?_⟩
  · by_cases e : j = k
    · subst e; rw [wayB_ray]; have := h.pos; omega
    · cases hr : rowOf s m j with
      | none => rw [wayB_out h (h.rowOf_none.1 hr) e]; exact Int.le_refl _
      | some i => have := h.rowOf_some.1 hr; rw [wayB_in h this hk]; have := h1 i j this; omega
  · have e := h.costNull hc (h.wayNull hz hkn hk)
    rw [h.wayCost hkn hk, Int.zero_mul, Int.add_zero] at e
    have h0 : s.den ≠ 0 := by have := h.pos; omega
    rw [← cancelZ h0 e]; exact h2
end Go.Ai
/- The criss-cross rule with least numbers ends. -/
namespace Go.Ai
set_option linter.unusedSimpArgs false
set_option linter.unusedVariables false
variable {m n : Nat} {T0 : Nat → Nat → Int} {s : Tab}

theorem sumN_nonneg {f : Nat → Int} {n : Nat} (h : ∀ j, j < n → 0 ≤ f j) : 0 ≤ sumN f n := by
  induction n with
  | zero => exact Int.le_refl _
  | succ n ih => have := ih fun j hj => h j (by omega); have := h n (by omega); simp only [sumN]; omega
theorem sumN_pos {f : Nat → Int} {n q : Nat} (h : ∀ j, j < n → 0 ≤ f j) (hq : q < n) (h0 : 0 < f q) : 0 < sumN f n := by
  induction n with
  | zero => omega
  | succ n ih =>
    simp only [sumN]
    by_cases e : q = n
    · subst e; have := sumN_nonneg (f := f) (n := q) fun j hj => h j (by omega); omega
    · have := ih (fun j hj => h j (by omega)) (by omega); have := h n (by omega); omega
theorem mul_pos_neg {a b : Int} (ha : a < 0) (hb : b < 0) : 0 < a * b := Int.mul_pos_of_neg_of_neg ha hb

/-- A column is basic. -/
def Bas (s : Tab) (j : Nat) : Prop := ∃ i, s.bas i = some j
/-- A column that is not wrong. -/
def OkC (m n : Nat) (s : Tab) (j : Nat) : Prop := (∀ i, s.bas i = some j → 0 ≤ s.t i (n + m)) ∧ (¬ Bas s j → 0 ≤ s.t m j)
/-- The pivot that the rule takes: row r, the column e enters, l leaves. -/
def Pick (m n : Nat) (s : Tab) (r e l : Nat) : Prop :=
  s.bas r = some l ∧ e < n ∧
  (((∀ j, j < l → OkC m n s j) ∧ s.t r (n + m) < 0 ∧ s.t r e < 0 ∧ ∀ j, j < e → 0 ≤ s.t r j) ∨
   ((∀ j, j < e → OkC m n s j) ∧ ¬ Bas s e ∧ s.t m e < 0 ∧ 0 < s.t r e ∧ ∀ i c, s.bas i = some c → c < l → s.t i e ≤ 0))

theorem TInv.rowLt (h : TInv m n T0 s) {i c : Nat} (hb : s.bas i = some c) : i < m := Classical.byContradiction fun hk => by rw [h.out i (by omega)] at hb; cases hb
theorem Pick.free (h : TInv m n T0 s) {r e l : Nat} (hp : Pick m n s r e l) : ¬ Bas s e := by
  obtain ⟨hb, he, ⟨_, _, h2, _⟩ | ⟨_, h2, _⟩⟩ := hp
  · rintro ⟨i, hi⟩
    have hr := h.rowLt hb
    by_cases e1 : r = i
    · subst e1
      have := (h.basic _ _ hi).2.1; have := h.pos; omega
    · have := (h.basic _ _ hi).2.2 r (by omega) e1; omega
  · exact h2
theorem Pick.ne (h : TInv m n T0 s) {r e l : Nat} (hp : Pick m n s r e l) : e ≠ l := by
  intro e1; subst e1; exact hp.free h ⟨r, hp.1⟩
theorem Pick.lt (h : TInv m n T0 s) {r e l : Nat} (hp : Pick m n s r e l) : l < n := (h.basic _ _ hp.1).1
theorem Pick.row (h : TInv m n T0 s) {r e l : Nat} (hp : Pick m n s r e l) : r < m := h.rowLt hp.1
theorem Pick.nonzero {r e l : Nat} (hp : Pick m n s r e l) : s.t r e ≠ 0 := by
  obtain ⟨hb, he, ⟨_, _, h2, _⟩ | ⟨_, _, _, h2, _⟩⟩ := hp <;> omega
theorem OkC.x (h : TInv m n T0 s) {j : Nat} (hk : OkC m n s j) : 0 ≤ xB s m n j := by
  cases hr : rowOf s m j with
  | none => rw [xB, hr]; exact Int.le_refl _
  | some i => rw [xB, hr]; exact hk.1 i (h.rowOf_some.1 hr)
theorem OkC.c (h : TInv m n T0 s) {j : Nat} (hk : OkC m n s j) : 0 ≤ s.t m j := by
  by_cases hb : Bas s j
  · obtain ⟨i, hi⟩ := hb; rw [h.basCost hi]; exact Int.le_refl _
  · exact hk.2 hb
theorem xB_free (h : TInv m n T0 s) {j : Nat} (hb : ¬ Bas s j) : xB s m n j = 0 := xB_out h fun i hi => hb ⟨i, hi⟩

/-- A column enters at one tableau, leaves at another one, and no greater one is basic in one only: that can not be. -/
theorem terlaky {s' s'' : Tab} (h' : TInv m n T0 s') (h'' : TInv m n T0 s'') (z' : ZeroR m n s') (z'' : ZeroR m n s'') (hc : T0 m (n + m) = 0) {q r' l' r'' e'' : Nat} (hq : q < n)
    (p' : Pick m n s' r' q l') (p'' : Pick m n s'' r'' e'' q) (hl : l' < q) (he : e'' < q) (hs : ∀ j, q < j → j < n → (Bas s' j ↔ Bas s'' j)) : False := by
  have hq' := p'.free h'
  have he'' := p''.free h''
  have d' := h'.pos
  have d'' := h''.pos
  -- what the second tableau gives
  have key : ∀ ρ : Nat → Int, (∀ j, j < q → 0 ≤ ρ j) → ρ q < 0 → (∀ j, q < j → j < n → Bas s' j → ρ j = 0) →
      ((∀ j, j < q → OkC m n s'' j) ∧ s''.t r'' (n + m) < 0 ∧ 0 < sumN (fun j => ρ j * xB s'' m n j) n) ∨ (s''.t m e'' < 0 ∧ 0 < sumN (fun j => ρ j * wayB s'' m e'' j) n) := by
    intro ρ h1 h2 h3
    obtain ⟨hb, _, ⟨k1, k2, _⟩ | ⟨k1, k2, k3, k4, k5⟩⟩ := p''
    · refine .inl ⟨k1, k2, sumN_pos (q := q) (fun j hj => ?_) hq ?_⟩
      · rcases Nat.lt_trichotomy j q with e | e | e
        · exact Int.mul_nonneg (h1 j e) ((k1 j e).x h'')
        · subst e; rw [xB_in h'' hb]; exact Int.le_of_lt (mul_pos_neg h2 k2)
        · by_cases hbj : Bas s'' j
          · rw [h3 j e hj ((hs j e hj).2 hbj), Int.zero_mul]; exact Int.le_refl _
          · rw [xB_free h'' hbj, Int.mul_zero]; exact Int.le_refl _
      · rw [xB_in h'' hb]; exact mul_pos_neg h2 k2
    · have hf : ∀ i, s''.bas i ≠ some e'' := fun i hi => k2 ⟨i, hi⟩
      have hwq : wayB s'' m e'' q < 0 := by rw [wayB_in h'' hb hf]; omega
      refine .inr ⟨k3, sumN_pos (q := q) (fun j hj => ?_) hq (mul_pos_neg h2 hwq)⟩
      rcases Nat.lt_trichotomy j q with e | e | e
      · refine Int.mul_nonneg (h1 j e) ?_
        by_cases ej : j = e''
        · subst ej; rw [wayB_ray]; omega
        · cases hr : rowOf s'' m j with
          | none => rw [wayB_out h'' (h''.rowOf_none.1 hr) ej]; exact Int.le_refl _
          | some i => have hi := h''.rowOf_some.1 hr; rw [wayB_in h'' hi hf]; have := k5 i j hi e; omega
      · subst e; exact Int.le_of_lt (mul_pos_neg h2 hwq)
      · by_cases hbj : Bas s'' j
        · rw [h3 j e hj ((hs j e hj).2 hbj), Int.zero_mul]; exact Int.le_refl _
        · rw [wayB_out h'' (fun i hi => hbj ⟨i, hi⟩) (by omega), Int.mul_zero]; exact Int.le_refl _
  have he''n : e'' < n := by omega
  have hf : ∀ i, s''.bas i ≠ some e'' := fun i hi => he'' ⟨i, hi⟩
  obtain ⟨hb', _, ⟨k1, k2, k3, k4⟩ | ⟨k1, k2, k3, k4, k5⟩⟩ := p'
  · -- a row
    have hr := h'.rowLt hb'
    have := key (s'.t r') k4 k3 fun j hj hjn hbj => by
      obtain ⟨i, hi⟩ := hbj
      refine (h'.basic i j hi).2.2 r' (by omega) fun e => ?_
      subst e; rw [hb'] at hi; cases hi; omega
    rcases this with ⟨_, _, g⟩ | ⟨_, g⟩
    · rw [h'.rowNull (h''.xNull z'') hr] at g
      have := Int.mul_neg_of_pos_of_neg d'' k2
      omega
    · rw [h'.rowNull (h''.wayNull z'' he''n hf) hr] at g
      omega
  · -- the costs
    have := key (s'.t m) (fun j hj => (k1 j hj).c h') k3 fun j hj hjn hbj => by
      obtain ⟨i, hi⟩ := hbj; exact h'.basCost hi
    rcases this with ⟨o2, r2, g⟩ | ⟨g2, g⟩
    · have e1 := h'.costNull hc (h''.xNull z'')
      have e2 := h''.costNull hc (h''.xNull z'')
      have e3 := h''.costNull hc (h'.xNull z')
      have e4 := h'.costNull hc (h'.xNull z')
      rw [h''.xCost] at e2
      rw [h'.xCost] at e4
      have g3 : 0 ≤ sumN (fun j => s''.t m j * xB s' m n j) n := by
        refine sumN_nonneg fun j hj => ?_
        rcases Nat.lt_trichotomy j q with e | e | e
        · exact Int.mul_nonneg ((o2 j e).c h'') ((k1 j e).x h')
        · subst e; rw [h''.basCost p''.1, Int.zero_mul]; exact Int.le_refl _
        · by_cases hbj : Bas s'' j
          · obtain ⟨i, hi⟩ := hbj; rw [h''.basCost hi, Int.zero_mul]; exact Int.le_refl _
          · rw [xB_free h' fun k => hbj ((hs j e hj).1 k), Int.mul_zero]; exact Int.le_refl _
      generalize sumN (fun j => T0 m j * xB s'' m n j) n = X at e1 e2
      generalize sumN (fun j => T0 m j * xB s' m n j) n = Y at e3 e4
      have hX : X = - s''.t m (n + m) := by
        rw [← Int.mul_add] at e2
        rcases Int.mul_eq_zero.1 e2.symm with e | e <;> omega
      have hY : Y = - s'.t m (n + m) := by
        rw [← Int.mul_add] at e4
        rcases Int.mul_eq_zero.1 e4.symm with e | e <;> omega
      rw [hX] at e1
      rw [hY] at e3
      rw [e1] at g
      rw [e3] at g3
      rw [Int.mul_neg] at g g3
      omega
    · have e1 := h'.costNull hc (h''.wayNull z'' he''n hf)
      have e2 := h''.costNull hc (h''.wayNull z'' he''n hf)
      rw [h''.wayCost he''n hf, Int.zero_mul, Int.add_zero] at e2
      rw [Int.zero_mul, Int.add_zero, ← cancelZ (by omega) e2] at e1
      rw [e1] at g
      have := Int.mul_neg_of_pos_of_neg d' g2
      omega

/-! ### Paths -/
theorem ZeroR.step (h : TInv m n T0 s) (hz : ZeroR m n s) {r c l : Nat} (hr : r < m) (hc : c < n) (hb : ∃ l, s.bas r = some l) : ZeroR m n (stepT s r c) := by
  intro i hi hbi
  simp only [stepT] at hbi ⊢
  by_cases e : i = r
  · subst e; rw [if_pos rfl] at hbi; cases hbi
  · rw [if_neg e] at hbi
    obtain ⟨z1, z2⟩ := hz i hi hbi
    have h0 : s.den ≠ 0 := by have := h.pos; omega
    have raw0 : ∀ j, j < n + m + 1 → s.t i j = 0 → rawT s r c i j = 0 := fun j hj hzj => by
      refine cancelZ h0 ?_
      rw [h.raw (by omega) (by omega) (by omega) e hj, hzj, z1 c hc]; grind
    exact ⟨fun j hj => by rw [raw0 j (by omega) (z1 j hj), Int.mul_zero], by rw [raw0 _ (by omega) z2, Int.mul_zero]⟩
theorem Bas.step (h : TInv m n T0 s) {r e l : Nat} (hb : s.bas r = some l) (hne : e ≠ l) (j : Nat) : Bas (stepT s r e) j ↔ j = e ∨ (Bas s j ∧ j ≠ l) := by
  constructor
  · rintro ⟨i, hi⟩
    simp only [stepT] at hi
    by_cases e1 : i = r
    · rw [if_pos e1] at hi; cases hi; exact .inl rfl
    · rw [if_neg e1] at hi
      refine .inr ⟨⟨i, hi⟩, fun e2 => ?_⟩
      subst e2; exact e1 (h.inj hi hb)
  · rintro (rfl | ⟨⟨i, hi⟩, hn⟩)
    · exact ⟨r, by simp [stepT]⟩
    · refine ⟨i, ?_⟩
      simp only [stepT]
      rw [if_neg, hi]
      intro e2; subst e2; rw [hb] at hi; cases hi; exact hn rfl

/-- A way of L pivots of the rule to this tableau. -/
def Path (m n : Nat) (T0 : Nat → Nat → Int) (L : Nat) (s : Tab) : Prop := ∃ (σ : Nat → Tab) (r e l : Nat → Nat), σ L = s ∧ TInv m n T0 (σ 0) ∧ ZeroR m n (σ 0) ∧
  ∀ t, t < L → Pick m n (σ t) (r t) (e t) (l t) ∧ σ (t + 1) = stepT (σ t) (r t) (e t)
theorem Path.zero (h : TInv m n T0 s) (hz : ZeroR m n s) : Path m n T0 0 s := ⟨fun _ => s, fun _ => 0, fun _ => 0, fun _ => 0, rfl, h, hz, fun t ht => absurd ht (by omega)⟩
theorem path_inv {σ : Nat → Tab} {r e l : Nat → Nat} {L : Nat} (h0 : TInv m n T0 (σ 0)) (z0 : ZeroR m n (σ 0)) (hp : ∀ t, t < L → Pick m n (σ t) (r t) (e t) (l t) ∧ σ (t + 1) = stepT (σ t) (r t) (e t)) :
    ∀ t, t ≤ L → TInv m n T0 (σ t) ∧ ZeroR m n (σ t) := by
  intro t
  induction t with
  | zero => intro _; exact ⟨h0, z0⟩
  | succ t ih =>
    intro ht
    obtain ⟨i1, i2⟩ := ih (by omega)
    obtain ⟨p1, p2⟩ := hp t (by omega)
    rw [p2]
    exact ⟨i1.step (p1.row i1) p1.2.1 p1.nonzero, i2.step (l := 0) i1 (p1.row i1) p1.2.1 ⟨_, p1.1⟩⟩
theorem Path.inv {L : Nat} (h : Path m n T0 L s) : TInv m n T0 s ∧ ZeroR m n s := by
  obtain ⟨σ, r, e, l, rfl, h0, z0, hp⟩ := h
  exact path_inv h0 z0 hp L (Nat.le_refl _)
theorem Path.snoc {L : Nat} (h : Path m n T0 L s) {r e l : Nat} (hp : Pick m n s r e l) : Path m n T0 (L + 1) (stepT s r e) := by
  obtain ⟨σ, r', e', l', hL, h0, z0, hq⟩ := h
  refine ⟨fun t => if t ≤ L then σ t else stepT s r e, fun t => if t < L then r' t else r, fun t => if t < L then e' t else e, fun t => if t < L then l' t else l, ?_, ?_, ?_, fun t ht => ?_⟩
  · exact if_neg (by omega)
  · simpa using h0
  · simpa using z0
  · by_cases k : t < L
    · simp only [if_pos k, if_pos (show t ≤ L by omega), if_pos (show t + 1 ≤ L by omega)]
      exact hq t k
    · have : t = L := by omega
      subst this
      simp only [if_neg k, Nat.le_refl, if_pos, if_neg (show ¬ t + 1 ≤ t by omega)]
      rw [hL]; exact ⟨hp, rfl⟩

section
variable {σ : Nat → Tab} {r e l : Nat → Nat} {L : Nat} (h0 : TInv m n T0 (σ 0)) (z0 : ZeroR m n (σ 0)) (hp : ∀ t, t < L → Pick m n (σ t) (r t) (e t) (l t) ∧ σ (t + 1) = stepT (σ t) (r t) (e t)) (hc : T0 m (n + m) = 0)
include h0 z0 hp
theorem path_bas (t : Nat) (ht : t < L) (j : Nat) : Bas (σ (t + 1)) j ↔ j = e t ∨ (Bas (σ t) j ∧ j ≠ l t) := by
  obtain ⟨p1, p2⟩ := hp t ht
  have i1 := (path_inv h0 z0 hp t (by omega)).1
  rw [p2]
  exact Bas.step i1 p1.1 (p1.ne i1) j
theorem path_same {j a : Nat} : ∀ d, a + d ≤ L → (∀ t, a ≤ t → t < a + d → e t ≠ j ∧ l t ≠ j) → (Bas (σ (a + d)) j ↔ Bas (σ a) j) := by
  intro d
  induction d with
  | zero => intro _ _; exact Iff.rfl
  | succ d ih =>
    intro hd h
    rw [← Nat.add_assoc, path_bas h0 z0 hp (a + d) (by omega), ih (by omega) fun t h1 h2 => h t h1 (by omega)]
    obtain ⟨k1, k2⟩ := h (a + d) (by omega) (by omega)
    constructor
    · rintro (k | k)
      · exact absurd k.symm k1
      · exact k.1
    · exact fun k => .inr ⟨k, k2.symm⟩
include hc
theorem path_once {q a b : Nat} (hab : a < b) (hb : b < L) (hq : ∀ t, a ≤ t → t ≤ b → e t ≤ q ∧ l t ≤ q) (hm : ∀ t, a < t → t < b → e t ≠ q ∧ l t ≠ q) (ha1 : e a = q ∨ l a = q) (hb1 : e b = q ∨ l b = q) : False := by
  obtain ⟨ia, za⟩ := path_inv h0 z0 hp a (by omega)
  obtain ⟨ib, zb⟩ := path_inv h0 z0 hp b (by omega)
  obtain ⟨pa, _⟩ := hp a (by omega)
  obtain ⟨pb, _⟩ := hp b (by omega)
  have sm : Bas (σ b) q ↔ Bas (σ (a + 1)) q := by
    have := path_same h0 z0 hp (j := q) (a := a + 1) (b - a - 1) (by omega) fun t h1 h2 => hm t (by omega) (by omega)
    rwa [show a + 1 + (b - a - 1) = b by omega] at this
  have up : ∀ j, q < j → (Bas (σ b) j ↔ Bas (σ a) j) := by
    intro j hj
    have := path_same h0 z0 hp (j := j) (a := a) (b - a) (by omega) fun t h1 h2 => by
      have := hq t (by omega) (by omega); omega
    rwa [show a + (b - a) = b by omega] at this
  rw [path_bas h0 z0 hp a (by omega)] at sm
  have na := pa.ne ia
  have nb := pb.ne ib
  have qa := hq a (by omega) (by omega)
  have qb := hq b (by omega) (by omega)
  rcases ha1 with ha1 | ha1
  · have hbq : Bas (σ b) q := sm.2 (.inl ha1.symm)
    have hlb : l b = q := by
      rcases hb1 with hb1 | hb1
      · exact absurd (hb1 ▸ hbq) (pb.free ib)
      · exact hb1
    have hqn : q < n := ha1 ▸ pa.2.1
    rw [ha1] at pa
    rw [hlb] at pb
    exact terlaky ia ib za zb hc hqn pa pb (by omega) (by omega) fun j hj _ => (up j hj).symm
  · have hbq : ¬ Bas (σ b) q := fun k => by
      rcases sm.1 k with k | k
      · omega
      · exact k.2 ha1.symm
    have heb : e b = q := by
      rcases hb1 with hb1 | hb1
      · exact hb1
      · exact absurd ⟨_, hb1 ▸ pb.1⟩ hbq
    have hqn : q < n := heb ▸ pb.2.1
    rw [ha1] at pa
    rw [heb] at pb
    exact terlaky ib ia zb za hc hqn pb pa (by omega) (by omega) fun j hj _ => up j hj
theorem path_len : ∀ (q a b : Nat), a ≤ b → b ≤ L → (∀ t, a ≤ t → t < b → e t < q ∧ l t < q) → b - a < 2 ^ q := by
  intro q
  induction q with
  | zero =>
    intro a b h1 h2 h3
    have : ¬ a < b := fun k => by have := h3 a (by omega) k; omega
    omega
  | succ q ih =>
    intro a b h1 h2 h3
    by_cases hx : ∃ t, a ≤ t ∧ t < b ∧ (e t = q ∨ l t = q)
    · obtain ⟨t, ht1, ht2, ht3⟩ := hx
      -- the first such time
      have hfirst : ∃ t, (a ≤ t ∧ t < b ∧ (e t = q ∨ l t = q)) ∧ ∀ u, a ≤ u → u < t → ¬ (e u = q ∨ l u = q) := by
        clear ih
        induction t using Nat.strongRecOn with
        | ind t iht =>
          by_cases hu : ∃ u, a ≤ u ∧ u < t ∧ (e u = q ∨ l u = q)
          · obtain ⟨u, u1, u2, u3⟩ := hu
            exact iht u u2 u1 (by omega) u3
          · exact ⟨t, ⟨ht1, ht2, ht3⟩, fun u u1 u2 u3 => hu ⟨u, u1, u2, u3⟩⟩
      obtain ⟨t, ⟨t1, t2, t3⟩, tf⟩ := hfirst
      have hlt : ∀ u, t < u → u < b → ¬ (e u = q ∨ l u = q) := by
        intro u
        induction u using Nat.strongRecOn with
        | ind u ihu =>
          intro u1 u2 u3
          exact path_once h0 z0 hp hc (a := t) (b := u) (q := q) u1 (by omega) (fun v v1 v2 => by have := h3 v (by omega) (by omega); omega)
            (fun v v1 v2 => by have := ihu v v2 v1 (by omega); simpa [not_or] using this) t3 u3
      have i1 := ih a t t1 (by omega) fun u u1 u2 => by have := h3 u u1 (by omega); have := tf u u1 u2; omega
      have i2 := ih (t + 1) b (by omega) h2 fun u u1 u2 => by have := h3 u (by omega) u2; have := hlt u (by omega) u2; omega
      rw [Nat.pow_succ]
      omega
    · have := ih a b h1 h2 fun t ht1 ht2 => by
        have := h3 t ht1 ht2
        have : ¬ (e t = q ∨ l t = q) := fun k => hx ⟨t, ht1, ht2, k⟩
        omega
      rw [Nat.pow_succ]
      omega
end
/-- The rule ends. -/
theorem Path.short {L : Nat} (h : Path m n T0 L s) (hc : T0 m (n + m) = 0) : L < 2 ^ n := by
  obtain ⟨σ, r, e, l, hL, h0, z0, hp⟩ := h
  have := path_len h0 z0 hp hc n 0 L (by omega) (Nat.le_refl _) fun t _ ht => ⟨(hp t ht).1.2.1, (hp t ht).1.lt (path_inv h0 z0 hp t (by omega)).1⟩
  omega
end Go.Ai
