/- Texts that were built one by one: On1, Od14, Od15, Od16, Od17, Od18. -/
import Derived.Test.YtjlkndkedknocaaMf
namespace Go.Ai
set_option linter.unusedSimpArgs false
set_option linter.unusedVariables false
attribute [local instance] Classical.propDecidable
/-- The classes' numbers, in the order of their first members. -/
structure Numb (N : Nat) (R : Nat → Nat → Prop) (f : Nat → Nat) (cnt : Nat) : Prop where
  rel : ∀ a b, a < N → b < N → (f a = f b ↔ R a b)
  lt : ∀ a, a < N → f a < cnt
  ord : ∀ j, j < cnt → ∃ a, a < N ∧ f a = j ∧ ∀ b, b < a → f b < j
theorem Numb.before {N : Nat} {R : Nat → Nat → Prop} {f : Nat → Nat} {c : Nat} (h : Numb N R f c) {a : Nat} (ha : a < N) (hn : ∀ b, b < a → ¬ R a b) (v : Nat) : v < f a ↔ ∃ b, b < a ∧ f b = v := by
  obtain ⟨a', h1, h2, h3⟩ := h.ord _ (h.lt a ha)
  have haa : a' = a := by
    rcases Nat.lt_trichotomy a' a with h4 | h4 | h4
    · exact absurd ((h.rel a a' ha h1).1 h2.symm) (hn a' h4)
    · exact h4
    · have := h3 a h4; omega
  subst haa
  constructor
  · intro hv
    obtain ⟨b, h4, h5, h6⟩ := h.ord v (Nat.lt_trans hv (h.lt a' ha))
    rcases Nat.lt_trichotomy b a' with h7 | h7 | h7
    · exact ⟨b, h7, h5⟩
    · subst h7; omega
    · have := h6 a' h7; omega
  · rintro ⟨b, h4, rfl⟩
    exact h3 b h4
theorem Numb.unique {N : Nat} {R : Nat → Nat → Prop} {f g : Nat → Nat} {c d : Nat} (h : Numb N R f c) (k : Numb N R g d) : (∀ a, a < N → f a = g a) ∧ c = d := by
  have heq : ∀ a, a < N → f a = g a := by
    intro a
    induction a using Nat.strongRecOn with
    | ind a ih =>
      intro ha
      by_cases hx : ∃ b, b < a ∧ R a b
      · obtain ⟨b, h1, h2⟩ := hx
        rw [(h.rel a b ha (by omega)).2 h2, (k.rel a b ha (by omega)).2 h2]
        exact ih b h1 (by omega)
      · have hn : ∀ b, b < a → ¬ R a b := fun b h1 h2 => hx ⟨b, h1, h2⟩
        have e : ∀ v, v < f a ↔ v < g a := fun v => by
          rw [h.before ha hn v, k.before ha hn v]
          constructor
          · rintro ⟨b, h1, h2⟩; exact ⟨b, h1, by rw [← ih b h1 (by omega)]; exact h2⟩
          · rintro ⟨b, h1, h2⟩; exact ⟨b, h1, by rw [ih b h1 (by omega)]; exact h2⟩
        have h1 := e (g a)
        have h2 := e (f a)
        omega
  refine ⟨heq, ?_⟩
  rcases Nat.lt_trichotomy c d with h1 | h1 | h1
  · obtain ⟨a, a1, a2, _⟩ := k.ord c h1
    have := h.lt a a1
    rw [heq a a1] at this; omega
  · exact h1
  · obtain ⟨a, a1, a2, _⟩ := h.ord d h1
    have := k.lt a a1
    rw [← heq a a1] at this; omega
theorem Numb.congr {N : Nat} {R S : Nat → Nat → Prop} {f : Nat → Nat} {c : Nat} (h : Numb N R f c) (e : ∀ a b, a < N → b < N → (R a b ↔ S a b)) : Numb N S f c :=
  ⟨fun a b ha hb => (h.rel a b ha hb).trans (e a b ha hb), h.lt, h.ord⟩
theorem Numb.eqv {N : Nat} {R : Nat → Nat → Prop} {f g : Nat → Nat} {c : Nat} (h : Numb N R f c) (e : ∀ a, a < N → f a = g a) : Numb N R g c :=
  ⟨fun a b ha hb => by rw [← e a ha, ← e b hb]; exact h.rel a b ha hb, fun a ha => by rw [← e a ha]; exact h.lt a ha, fun j hj => by
    obtain ⟨a, h1, h2, h3⟩ := h.ord j hj
    exact ⟨a, h1, by rw [← e a h1]; exact h2, fun b hb => by rw [← e b (by omega)]; exact h3 b hb⟩⟩

/-! ### Permutations -/
structure PermN (N : Nat) (f : Nat → Nat) : Prop where
  lt : ∀ a, a < N → f a < N
  inj : ∀ a b, a < N → b < N → f a = f b → a = b
def itr (f : Nat → Nat) (a : Nat) : Nat → Nat
  | 0 => a
  | t + 1 => f (itr f a t)
theorem itr_add (f : Nat → Nat) (a s t : Nat) : itr f a (s + t) = itr f (itr f a s) t := by
  induction t with
  | zero => rfl
  | succ t ih => rw [← Nat.add_assoc]; simp only [itr, ih]
def SameO (f : Nat → Nat) (a b : Nat) : Prop := ∃ t, itr f a t = b
section
variable {N : Nat} {f : Nat → Nat} (h : PermN N f)
include h
theorem PermN.itr_lt {a : Nat} (ha : a < N) : ∀ t, itr f a t < N := by
  intro t
  induction t with
  | zero => exact ha
  | succ t ih => exact h.lt _ ih
theorem PermN.itr_inj {a b : Nat} (ha : a < N) (hb : b < N) : ∀ t, itr f a t = itr f b t → a = b := by
  intro t
  induction t with
  | zero => exact id
  | succ t ih => intro e; exact ih (h.inj _ _ (h.itr_lt ha t) (h.itr_lt hb t) e)
theorem PermN.period {a : Nat} (ha : a < N) : ∃ P, (0 < P ∧ itr f a P = a ∧ P ≤ N) ∧ ∀ t, 0 < t → t < P → itr f a t ≠ a := by
  have hex : ∃ m, 0 < m ∧ itr f a m = a ∧ m ≤ N := by
    obtain ⟨i, j, h1, h2, h3⟩ := Go.Proofs.Ytjlkndkedknocaa.pigeon N (itr f a) fun i _ => h.itr_lt ha i
    refine ⟨j - i, by omega, ?_, by omega⟩
    have e1 : itr f a j = itr f (itr f a (j - i)) i := by rw [← itr_add, Nat.sub_add_cancel (by omega)]
    rw [e1] at h3
    exact (h.itr_inj ha (h.itr_lt ha _) i h3).symm
  obtain ⟨m, h1, h2⟩ := Go.Proofs.Ytjlkndkedknocaa.least hex
  exact ⟨m, h1, fun i h3 h4 e => h2 i h4 ⟨h3, e, by omega⟩⟩
omit h in
theorem PermN.mul {a P : Nat} (hP : itr f a P = a) : ∀ k, itr f a (k * P) = a := by
  intro k
  induction k with
  | zero => simp [itr]
  | succ k ih => rw [Nat.succ_mul, itr_add, ih, hP]
omit h in
theorem PermN.refl (a : Nat) : SameO f a a := ⟨0, rfl⟩
omit h in
theorem SameO.trans {a b c : Nat} (h1 : SameO f a b) (h2 : SameO f b c) : SameO f a c := by
  obtain ⟨s, rfl⟩ := h1
  obtain ⟨t, rfl⟩ := h2
  exact ⟨s + t, itr_add _ _ _ _⟩
theorem PermN.symm {a b : Nat} (ha : a < N) (h1 : SameO f a b) : SameO f b a := by
  obtain ⟨s, rfl⟩ := h1
  obtain ⟨P, ⟨p1, p2, _⟩, _⟩ := h.period ha
  refine ⟨s * P - s, ?_⟩
  have hle : s ≤ s * P := Nat.le_mul_of_pos_right _ p1
  rw [← itr_add, Nat.add_sub_cancel' hle]
  exact PermN.mul p2 s
theorem PermN.lt_of {a b : Nat} (ha : a < N) (h1 : SameO f a b) : b < N := by obtain ⟨t, rfl⟩ := h1; exact h.itr_lt ha t
omit h in
/-- In less steps than the period. -/
theorem PermN.short {a b P : Nat} (hp : 0 < P) (hP : itr f a P = a) (h1 : SameO f a b) : ∃ t, t < P ∧ itr f a t = b := by
  obtain ⟨s, rfl⟩ := h1
  refine ⟨s % P, Nat.mod_lt _ hp, ?_⟩
  have : itr f a s = itr f a (P * (s / P) + s % P) := by rw [Nat.div_add_mod]
  rw [this, itr_add, Nat.mul_comm, PermN.mul hP]
theorem PermN.dist {a P s t : Nat} (ha : a < N) (hm : ∀ t, 0 < t → t < P → itr f a t ≠ a) (hst : s < t) (ht : t < P) : itr f a s ≠ itr f a t := fun e => by
  have e1 : itr f a t = itr f (itr f a (t - s)) s := by rw [← itr_add, Nat.sub_add_cancel (by omega)]
  rw [e1] at e
  exact hm (t - s) (by omega) (by omega) (h.itr_inj ha (h.itr_lt ha _) s e).symm
end
/-- The orbits' numbers under way: the first i are done. -/
structure OrbI (N : Nat) (f : Nat → Nat) (i cnt : Nat) (xs : List Int) : Prop where
  len : xs.length = N
  val : ∀ j, j < N → nth xs j = -1 ∨ (0 ≤ nth xs j ∧ nth xs j < cnt)
  done : ∀ j, j < i → 0 ≤ nth xs j
  rel : ∀ a b, a < N → b < N → 0 ≤ nth xs a → (nth xs a = nth xs b ↔ SameO f a b)
  ord : ∀ j : Nat, j < cnt → ∃ a, a < N ∧ nth xs a = j ∧ ∀ b, b < a → nth xs b < j ∧ 0 ≤ nth xs b
/-- In an orbit: the first t are done. -/
structure OrbT (N : Nat) (f : Nat → Nat) (i cnt t : Nat) (xs0 xs : List Int) : Prop where
  len : xs.length = N
  at_ : ∀ j, nth xs j = if ∃ u, u < t ∧ itr f i u = j then (cnt : Int) else nth xs0 j
theorem OrbI.start {N : Nat} {f : Nat → Nat} {xs : List Int} (hl : xs.length = N) (hm : ∀ j, j < N → nth xs j = -1) : OrbI N f 0 0 xs :=
  ⟨hl, fun j hj => .inl (hm j hj), fun j hj => by omega, fun a b ha hb h0 => by rw [hm a ha] at h0; omega, fun j hj => by omega⟩
theorem OrbI.skip {N : Nat} {f : Nat → Nat} {i cnt : Nat} {xs : List Int} (h : OrbI N f i cnt xs) (hi : 0 ≤ nth xs i) : OrbI N f (i + 1) cnt xs :=
  ⟨h.len, h.val, fun j hj => by
    by_cases e : j = i
    · rw [e]; exact hi
    · exact h.done j (by omega), h.rel, h.ord⟩
theorem OrbT.start {N : Nat} {f : Nat → Nat} {i cnt : Nat} {xs : List Int} (h : OrbI N f i cnt xs) : OrbT N f i cnt 0 xs xs :=
  ⟨h.len, fun j => by rw [if_neg (by rintro ⟨u, h1, _⟩; omega)]⟩
theorem OrbT.next {N : Nat} {f : Nat → Nat} {i cnt t : Nat} {xs0 xs : List Int} (h : OrbT N f i cnt t xs0 xs) (ht : itr f i t < N) : OrbT N f i cnt (t + 1) xs0 (xs.set (itr f i t) cnt) :=
  ⟨by simp [h.len], fun j => by
    rw [nth_set (by rw [h.len]; exact ht)]
    by_cases e : itr f i t = j
    · rw [if_pos e.symm, if_pos ⟨t, by omega, e⟩]
    · rw [if_neg (fun x => e x.symm), h.at_]
      by_cases hx : ∃ u, u < t ∧ itr f i u = j
      · obtain ⟨u, h1, h2⟩ := hx
        rw [if_pos ⟨u, h1, h2⟩, if_pos ⟨u, by omega, h2⟩]
      · rw [if_neg hx, if_neg]
        rintro ⟨u, h1, h2⟩
        by_cases e2 : u = t
        · subst e2; exact e h2
        · exact hx ⟨u, by omega, h2⟩⟩
/-- Before the orbit is through, the next one has no number. -/
theorem OrbT.neg {N : Nat} {f : Nat → Nat} (hf : PermN N f) {i cnt t P : Nat} {xs0 xs : List Int} (h : OrbT N f i cnt t xs0 xs) (k : OrbI N f i cnt xs0) (hi : i < N) (hn : nth xs0 i < 0) (hm : ∀ t, 0 < t → t < P → itr f i t ≠ i) (ht : t < P) : nth xs (itr f i t) < 0 := by
  rw [h.at_, if_neg]
  · have hl := hf.itr_lt hi t
    apply Classical.byContradiction
    intro h0
    have := (k.rel _ _ hl hi (by omega)).2 (hf.symm hi ⟨t, rfl⟩)
    omega
  · rintro ⟨u, h1, h2⟩
    exact hf.dist hi hm h1 ht h2
theorem OrbT.finish {N : Nat} {f : Nat → Nat} (hf : PermN N f) {i cnt P : Nat} {xs0 xs : List Int} (h : OrbT N f i cnt P xs0 xs) (k : OrbI N f i cnt xs0) (hi : i < N) (hn : nth xs0 i < 0) (hp : 0 < P) (hP : itr f i P = i) : OrbI N f (i + 1) (cnt + 1) xs := by
  have hin : ∀ j, (∃ u, u < P ∧ itr f i u = j) ↔ SameO f i j := fun j => ⟨fun ⟨u, _, e⟩ => ⟨u, e⟩, fun e => PermN.short hp hP e⟩
  have hat : ∀ j, nth xs j = if SameO f i j then (cnt : Int) else nth xs0 j := fun j => by
    rw [h.at_]
    by_cases e : SameO f i j
    · rw [if_pos e, if_pos ((hin j).2 e)]
    · rw [if_neg e, if_neg fun x => e ((hin j).1 x)]
  have hneg : ∀ j, j < N → SameO f i j → nth xs0 j < 0 := fun j hj e => by
    apply Classical.byContradiction
    intro h0
    have := (k.rel _ _ hj hi (by omega)).2 (hf.symm hi e)
    omega
  refine ⟨h.len, fun j hj => ?_, fun j hj => ?_, fun a b ha hb h0 => ?_, fun j hj => ?_⟩
  · rw [hat]
    split
    · right; omega
    · rcases k.val j hj with h1 | h1
      · exact .inl h1
      · right; omega
  · rw [hat]
    split
    · omega
    · rename_i e
      by_cases e2 : j = i
      · exact absurd (by rw [e2]; exact PermN.refl i) e
      · exact k.done j (by omega)
  · rw [hat] at h0
    rw [hat a, hat b]
    by_cases ea : SameO f i a
    · rw [if_pos ea]
      by_cases eb : SameO f i b
      · rw [if_pos eb]; exact ⟨fun _ => (hf.symm hi ea).trans eb, fun _ => rfl⟩
      · rw [if_neg eb]
        constructor
        · intro e
          rcases k.val b hb with h1 | h1 <;> omega
        · intro e; exact absurd (ea.trans e) eb
    · rw [if_neg ea] at h0 ⊢
      by_cases eb : SameO f i b
      · rw [if_pos eb]
        constructor
        · intro e
          rcases k.val a ha with h1 | h1 <;> omega
        · intro e; exact absurd (eb.trans (hf.symm ha e)) ea
      · rw [if_neg eb]; exact k.rel a b ha hb h0
  · by_cases e : j = cnt
    · refine ⟨i, hi, by rw [hat, if_pos (PermN.refl i), e], fun b hb => ?_⟩
      have h1 := k.done b hb
      have hbN : b < N := by omega
      have : ¬ SameO f i b := fun e => by have := hneg b hbN e; omega
      rw [hat, if_neg this]
      rcases k.val b hbN with h2 | h2 <;> omega
    · obtain ⟨a, h1, h2, h3⟩ := k.ord j (by omega)
      have hold : ∀ b, b < N → 0 ≤ nth xs0 b → nth xs b = nth xs0 b := fun b hb h0 => by
        rw [hat, if_neg]
        intro e; have := hneg b hb e; omega
      refine ⟨a, h1, by rw [hold a h1 (by omega)]; exact h2, fun b hb => ?_⟩
      have := h3 b hb
      rw [hold b (by omega) this.2]; exact this
theorem OrbI.numb {N : Nat} {f : Nat → Nat} {cnt : Nat} {xs : List Int} (h : OrbI N f N cnt xs) : Numb N (SameO f) (fun a => (nth xs a).toNat) cnt :=
  ⟨fun a b ha hb => by
    have h1 := h.done a ha
    have h2 := h.done b hb
    rw [← h.rel a b ha hb h1]
    constructor
    · intro e; omega
    · intro e; rw [e], fun a ha => by
    have h1 := h.done a ha
    rcases h.val a ha with h2 | h2 <;> omega, fun j hj => by
    obtain ⟨a, h1, h2, h3⟩ := h.ord j hj
    exact ⟨a, h1, by rw [h2]; rfl, fun b hb => by have := h3 b hb; omega⟩⟩
end Go.Ai
namespace Go.Proofs.Ytjlkndkedknocaa
open Go Go.Ai
set_option linter.unusedSimpArgs false
set_option linter.unusedVariables false
attribute [local instance] Classical.propDecidable
theorem crossC_toNat {n : Nat} {x : Nat → Nat → Int} {s : Nat → Int} {L : Int} (hS : Snd n x s L) {i : Nat} (hi : i < n) : crossC (x i) (s i) = crossC (fun j => ((x i j).toNat : Int)) (s i) := by
  have hr : ∀ q, q < 4 → 0 ≤ x i q := fun q hq => by
    have := (hS.range (4 * i + q) (by omega)).1
    unfold use at this
    rw [show (4 * i + q) / 4 = i by omega, show (4 * i + q) % 4 = q by omega] at this
    exact this
  have h : ∀ q, q < 4 → x i q = ((x i q).toNat : Int) := fun q hq => by have := hr q hq; omega
  simp only [crossC]
  rw [← h 0 (by omega), ← h 1 (by omega), ← h 2 (by omega), ← h 3 (by omega)]
variable {E : Env} (hE : OE E)
include hE
theorem enter_ {h0 : List O} {a : Option Addr} {n c : Nat} {x : Nat → Nat → Int} {s : Nat → Int} {L : Int} (hx : CrossP h0 a n x s) :
    DC E 157 [dV a n c L] ⟨h0, h0.length⟩ fun o st' =>
      (Snd n x s L ∧ PlanG (dgOf n x s L) ∧ ∃ p, o = .ret (.tuple #[.pointer (some ⟨p, 0, none⟩), .int .i64 0]) ∧ DiagP st'.h p (dgOf n x s L) ∧ Sub h0 st'.h ∧ h0.length ≤ st'.fl ∧ h0.length ≤ p) ∨
      (Snd n x s L ∧ ¬ PlanG (dgOf n x s L) ∧ o = .ret (.tuple #[.pointer none, .int .i64 221]) ∧ st' = ⟨h0, h0.length⟩) ∨
      (¬ Snd n x s L ∧ o = .ret (.tuple #[.pointer none, .int .i64 220]) ∧ st' = ⟨h0, h0.length⟩) := by
  refine hE.fnC (body := rb157) rfl ?_
  unfold rb157
  have hx1 : CrossP (h0 ++ [O.cells [.slice a n c, .int .i64 L] 24 (some 0)]) a n x s := hx.ext (Ext.snoc _ _)
  simp [dV, rdN_at0]
  have h1 := ends109 hE (c := c) (L := L) hx1
  simp [dV] at h1
  refine h1.imp ?_
  rintro o st' (⟨hS, ta, rfl, hT, hs, hf⟩ | ⟨hS, rfl, rfl⟩)
  · obtain ⟨h1, f1⟩ := st'
    simp only at hT hs hf
    have hB : h1[h0.length]? = some (O.cells [.slice a n c, .int .i64 L] 24 (some 0)) := hs _ _ (app_at0 _ _)
    have hs0 : Sub h0 h1 := ((Sub.refl h0).app _).trans hs
    have hl0 := hs0.len
    obtain ⟨G, hGe⟩ : ∃ G, G = dgOf n x s L := ⟨_, rfl⟩
    have hG : GoodG G := by rw [hGe]; exact good_of hS
    have hGn : G.n = n := by rw [hGe]; rfl
    have hsz := hG.size
    rw [← hGe]
    simp [joined_fl, hf, rdN_def, hB]
    obtain ⟨h2, hh2⟩ : ∃ H, H = h1 ++ [O.cells [.slice a n c, .int .i64 L, .slice ta (2 * n) (2 * n)] 200 (some 0)] := ⟨_, rfl⟩
    have hs2 : Sub h1 h2 := by rw [hh2]; exact (Sub.refl _).app _
    have l2 : h2.length = h1.length + 1 := by rw [hh2]; simp
    have hd : DiagP h2 h1.length G := by
      refine ⟨a, c, ta, 2 * n, 200, some 0, ?_, ?_, ?_⟩
      · rw [hh2, app_at0, hGe]; rfl
      · obtain ⟨b, o, k1, k2⟩ := (hx.sub (hs0.trans hs2))
        refine ⟨b, o, by rw [hGn]; exact k1, fun i hi => ?_⟩
        rw [hGn] at hi
        rw [k2 i hi, crossC_toNat hS hi, hGe]; rfl
      · rw [hGn, hGe]; exact hT.sub hs2
    rw [← hh2, ← l2]
    refine (pieces110 hE hG hd).imp ?_
    rintro o ⟨h3, f3⟩ ⟨xs, k, rfl, hf3, hPI, hk, hCI⟩
    simp only at hf3 hPI
    have hl3 := hPI.sub.len
    have e1 : (k : Int) * 8 ≤ 140737488355328 := by omega
    have e2 : (k : Int) < 4611686018427387904 := by omega
    simp [joined_fl, hf3, e1, e2]
    have hlx := hPI.len
    have hxv : ∀ i, i < G.n → ∃ j : Nat, nth xs i = j ∧ j < k := fun i hi => by
      have h1 := hPI.done i hi
      rcases hPI.val i hi with h2 | h2
      · omega
      · exact ⟨(nth xs i).toNat, by omega, by omega⟩
    have ha2 := hPI.at_
    have h23 := (List.getElem?_eq_some_iff.1 ha2).1
    refine DW_loop (fun kk fr st => ∃ (i : Nat) (h : List O) (lf : List Int), i + kk = k ∧ st = ⟨h, h0.length⟩ ∧ Sub h3 h ∧ h[h3.length]? = some (.cells (intsC lf) 3 (some 0)) ∧ lf.length = k ∧ (∀ j, j < i → nth lf j = 2) ∧ get fr 6 = .pointer (some ⟨h1.length, 0, none⟩) ∧ get fr 7 = .slice (some ⟨h2.length, 0, none⟩) G.n G.n ∧ get fr 9 = .slice (some ⟨h3.length, 0, none⟩) k k ∧ get fr 36 = .int .i64 k ∧ get fr 37 = .int .i64 i) ?_ (k := k) ?_
    · rintro kk fr st ⟨i, h, lf, hik, rfl, hsub, hat, hlf, hF, g6, g7, g9, g36, g37⟩
      have hsl := hsub.len
      by_cases hi : i < k
      · have hw : IntKind.i64.wrap ((i : Int) + 1) = (i : Int) + 1 := by rw [w64_id] <;> omega
        have hi2 : i < lf.length := by omega
        have hi3 : i + 1 ≤ k := by omega
        have hmin : min h0.length h3.length = h0.length := by omega
        simp [g6, g7, g9, g36, g37, hi, wrN_def, hat, hlf, intsC_set, hw, hi3, hmin]
        refine ⟨kk - 1, by omega, i + 1, by omega, hsub.set (Nat.le_refl _) _, lf.set i 2, set_self hat, by simp [hlf], fun j hj => ?_, by omega⟩
        rw [nth_set hi2]
        by_cases e : j = i
        · rw [if_pos e]
        · rw [if_neg e]; exact hF j (by omega)
      · have hin : i = k := by omega
        subst hin
        simp [g6, g7, g9, g36, g37]
        have hlb : ∀ lf : List Int, lf.length = i → ∀ j, j < i → j < lf.length ∧ j + 1 ≤ i := fun lf h j hj => ⟨by omega, by omega⟩
        refine DW_loop (fun kk fr st => ∃ (m : Nat) (h : List O) (lf : List Int), m + kk = G.n ∧ st = ⟨h, h0.length⟩ ∧ Sub h3 h ∧ h[h3.length]? = some (.cells (intsC lf) 3 (some 0)) ∧ lf.length = i ∧ (∀ j : Nat, j < i → nth lf j = 2 + cntP (fun i' => nth xs i' = j) m) ∧ get fr 6 = .pointer (some ⟨h1.length, 0, none⟩) ∧ get fr 7 = .slice (some ⟨h2.length, 0, none⟩) G.n G.n ∧ get fr 9 = .slice (some ⟨h3.length, 0, none⟩) i i ∧ get fr 44 = .slice (some ⟨h2.length, 0, none⟩) G.n G.n ∧ get fr 45 = .int .i64 G.n ∧ get fr 46 = .int .i64 m) ?_ (k := G.n) ?_
        · clear g6 g7 g9 g36 g37 hF hlf hat hsub hsl
          clear h lf
          rintro kk fr st ⟨m, h, lf, hik, rfl, hsub, hat, hlf, hF, g6, g7, g9, g44, g45, g46⟩
          have hsl := hsub.len
          have hx2 := hsub _ _ ha2
          have hmin : min h0.length h3.length = h0.length := by omega
          by_cases hm : m < G.n
          · have hw : IntKind.i64.wrap ((m : Int) + 1) = (m : Int) + 1 := by rw [w64_id] <;> omega
            have hmx : m < xs.length := by omega
            obtain ⟨j0, hj0, hj1⟩ := hxv m hm
            obtain ⟨hj2, hj3⟩ := hlb lf hlf j0 hj1
            have hcl := cntP_le (fun i' => nth xs i' = (j0 : Int)) m
            have hw2 : IntKind.i64.wrap (nth lf j0 + 1) = nth lf j0 + 1 := by rw [w64_id] <;> have := hF j0 hj1 <;> omega
            simp [g6, g7, g9, g44, g45, g46, hm, rd_def, hx2, intsC_get hmx, hj0, hj1, hat, intsC_get hj2, wrN_def, hlf, intsC_set, hw, hw2, hj3, hmin]
            refine ⟨kk - 1, by omega, m + 1, by omega, hsub.set (Nat.le_refl _) _, lf.set j0 (nth lf j0 + 1), set_self hat, by simp [hlf], fun j hj => ?_, by omega⟩
            rw [nth_set hj2, hF j hj]
            simp only [cntP, hj0]
            by_cases e : j = j0
            · subst e
              rw [if_pos rfl, if_pos rfl, hF j hj]
              omega
            · rw [if_neg e, if_neg (by omega)]; omega
          · have hmn : m = G.n := by omega
            subst hmn
            simp [g6, g7, g9, g44, g45, g46]
            have hd4 : DiagP h h1.length G := hd.sub (hPI.sub.trans hsub)
            refine (regions111 hE hG hd4).imp ?_
            rintro o ⟨h5, f5⟩ ⟨v, rfl, hf5, hs5, hR⟩
            simp only at hf5 hs5 hR
            obtain ⟨ra, rfl, hlook⟩ := RegsP.look hG hR
            have h3h := (List.getElem?_eq_some_iff.1 hat).1
            have hat5 := hs5 _ _ hat
            have hs25 : Sub h2 h5 := hPI.sub.trans (hsub.trans hs5)
            have hx5 := hs5 _ _ hx2
            have hd5 := hd4.sub hs5
            have hl5 := hs5.len
            have hrl : (regs G).length ≤ 4 * G.n := regs_len
            have hs05 : Sub h0 h5 := hs0.trans (hs2.trans (hPI.sub.trans (hsub.trans hs5)))
            simp [joined_fl, hf5]
            refine DW_loop (fun kk fr st => ∃ (t : Nat) (h : List O) (lf : List Int), t + kk = (regs G).length ∧ st = ⟨h, h0.length⟩ ∧ (∀ (b : Nat) (o : O), h5[b]? = some o → b ≠ h3.length → h[b]? = some o) ∧ h[h3.length]? = some (.cells (intsC lf) 3 (some 0)) ∧ lf.length = i ∧ (∀ j : Nat, j < i → nth lf j = 2 + cntP (fun i' => nth xs i' = j) G.n - cntP (fun t' => nth xs (rhead G t') = j) t) ∧ get fr 6 = .pointer (some ⟨h1.length, 0, none⟩) ∧ get fr 7 = .slice (some ⟨h2.length, 0, none⟩) G.n G.n ∧ get fr 9 = .slice (some ⟨h3.length, 0, none⟩) i i ∧ get fr 58 = .slice ra (regs G).length (regs G).length ∧ get fr 59 = .int .i64 (regs G).length ∧ get fr 60 = .int .i64 t) ?_ (k := (regs G).length) ?_
            · clear g6 g7 g9 g44 g45 g46
              rintro kk fr st ⟨t, h', lf, hik, rfl, hsub', hat, hlf, hF, g6, g7, g9, g58, g59, g60⟩
              have hx2 := hsub' _ _ hx5 (by omega)
              have hmin : min h0.length h3.length = h0.length := by omega
              by_cases ht : t < (regs G).length
              · have hw : IntKind.i64.wrap ((t : Int) + 1) = (t : Int) + 1 := by rw [w64_id] <;> omega
                obtain ⟨rb, rb', rn, rfl, hb1, hb2, hrn, ⟨cs, hc1, hc2⟩, cs', hc3⟩ := hlook t ht
                have hc1' := hsub' _ _ hc1 (by omega)
                have hc3' := hsub' _ _ hc3 (by omega)
                have hrh := rhead_lt hG ht
                have hrx : rhead G t < xs.length := by omega
                obtain ⟨j0, hj0, hj1⟩ := hxv _ hrh
                obtain ⟨hj2, hj3⟩ := hlb lf hlf j0 hj1
                have hcl := cntP_le (fun i' => nth xs i' = (j0 : Int)) G.n
                have hcl2 := cntP_le (fun t' => nth xs (rhead G t') = (j0 : Int)) t
                have hw2 : IntKind.i64.wrap (nth lf j0 - 1) = nth lf j0 - 1 := by rw [w64_id] <;> have := hF j0 hj1 <;> omega
                simp [g6, g7, g9, g58, g59, g60, ht, rd_def, hc1', hc2, hrn, hc3', hrh, hx2, intsC_get hrx, hj0, hj1, hat, intsC_get hj2, wrN_def, hlf, intsC_set, hw, hw2, hj3, hmin]
                refine ⟨kk - 1, by omega, t + 1, by omega, fun b o hb hn => set_ne (hsub' b o hb hn) hn, lf.set j0 (nth lf j0 - 1), set_self hat, by simp [hlf], fun j hj => ?_, by omega⟩
                rw [nth_set hj2, hF j hj]
                simp only [cntP, hj0]
                by_cases e : j = j0
                · subst e
                  rw [if_pos rfl, if_pos rfl, hF j hj]
                  omega
                · rw [if_neg e, if_neg (by omega)]; omega
              · have htn : t = (regs G).length := by omega
                subst htn
                have hiff : PlanG G ↔ ∀ j : Nat, j < i → nth lf j = 0 := by
                  have key : ∀ c, c < G.n → ∀ j : Nat, nth xs c = j → ((cntP (fun t => Conn G c (rhead G t)) (regs G).length = 2 + cntP (fun i => Conn G c i) G.n) ↔ nth lf j = 0) := fun c hc j hj => by
                    have hall : ∀ j, j < G.n → 0 ≤ nth xs j ∧ nth xs j < (i : Int) := fun j hj => by obtain ⟨q, h1, h2⟩ := hxv j hj; omega
                    have c1 : cntP (fun t => Conn G c (rhead G t)) (regs G).length = cntP (fun t' => nth xs (rhead G t') = j) (regs G).length := cntP_congr fun t ht => by
                      have := hCI.iff hG hall hc (rhead_lt hG ht)
                      rw [← this, hj]; exact eq_comm
                    have c2 : cntP (fun i => Conn G c i) G.n = cntP (fun i' => nth xs i' = j) G.n := cntP_congr fun i' hi' => by
                      have := hCI.iff hG hall hc hi'
                      rw [← this, hj]; exact eq_comm
                    obtain ⟨q, q1, q2⟩ := hxv c hc
                    have hjk : j < i := by omega
                    rw [c1, c2, hF j hjk]
                    omega
                  constructor
                  · intro hp j hj
                    obtain ⟨c, hc, hcj⟩ := hPI.surj j (by omega)
                    exact (key c hc j hcj).1 (hp c hc)
                  · intro hz c hc
                    obtain ⟨j, h1, h2⟩ := hxv c hc
                    exact (key c hc j h1).2 (hz j h2)
                simp [g6, g7, g9, g58, g59, g60]
                refine DW_loop (fun kk fr st => ∃ (j : Nat), j + kk = i ∧ st = ⟨h', h0.length⟩ ∧ (∀ j', j' < j → nth lf j' = 0) ∧ get fr 6 = .pointer (some ⟨h1.length, 0, none⟩) ∧ get fr 77 = .slice (some ⟨h3.length, 0, none⟩) i i ∧ get fr 78 = .int .i64 i ∧ get fr 79 = .int .i64 j) ?_ (k := i) ?_
                · clear g6 g7 g9 g58 g59 g60
                  rintro kk fr st ⟨j, hjk, rfl, hz, g6, g77, g78, g79⟩
                  by_cases hj : j < i
                  · have hw : IntKind.i64.wrap ((j : Int) + 1) = (j : Int) + 1 := by rw [w64_id] <;> omega
                    have hj2 : j < lf.length := by omega
                    by_cases hzj : nth lf j = 0
                    · simp [g6, g77, g78, g79, hj, rd_def, hat, intsC_get hj2, hzj, hw]
                      refine ⟨kk - 1, by omega, j + 1, by omega, fun j' hj' => ?_, by omega⟩
                      by_cases e : j' = j
                      · rw [e]; exact hzj
                      · exact hz j' (by omega)
                    · simp [g6, g77, g78, g79, hj, rd_def, hat, intsC_get hj2, hzj, hw]
                      unfold pairQ
                      rw [back_scalar (by simp [Out.scalar, scalar, flat1, flat]) (Nat.le_refl _)]
                      exact .inr (.inl ⟨hS, fun hp => hzj (hiff.1 hp j hj), rfl, rfl⟩)
                  · have hji : j = i := by omega
                    subst hji
                    simp [g6, g77, g78, g79]
                    unfold pairQ back
                    rw [if_neg (by simp [Out.scalar, scalar, flat1, flat])]
                    refine .inl ⟨hS, hiff.2 hz, h1.length, rfl, ?_, fun b o hb => ?_, Nat.le_refl _, hl0⟩
                    · exact hd.sub fun b o hb => hsub' _ _ (hs25 b o hb) (by have := (List.getElem?_eq_some_iff.1 hb).1; omega)
                    · have := (List.getElem?_eq_some_iff.1 hb).1
                      exact hsub' _ _ (hs05 b o hb) (by omega)
                · exact ⟨0, by omega, rfl, fun j h => by omega, by simp [g6]⟩
            · exact ⟨0, h5, lf, by omega, rfl, fun b o hb _ => hb, hat5, hlf, fun j hj => by rw [hF j hj]; simp [cntP], by simp [g6, g7, g9]⟩
        · exact ⟨0, h, lf, by omega, rfl, hsub, hat, hlf, fun j hj => by rw [hF j hj]; simp [cntP], by simp [g6, g7, g9]⟩
    · refine ⟨0, _, List.replicate k 0, by omega, rfl, (Sub.refl h3).app _, ?_, by simp, fun j h => by omega, by simp⟩
      rw [app_at0]
      simp [rep, intsC]
  · simp [rdN_at0]
    unfold pairQ
    rw [back_scalar (by simp [Out.scalar, scalar, flat1, flat]) (by simp [joined])]
    exact .inr (.inr ⟨hS, rfl, rfl⟩)
end Go.Proofs.Ytjlkndkedknocaa
namespace Go.Proofs.Ytjlkndkedknocaa
open Go Go.Ai
set_option linter.unusedSimpArgs false
set_option linter.unusedVariables false
attribute [local instance] Classical.propDecidable
theorem outB_flip {s : Int} {q : Nat} (hs : s = 1 ∨ s = -1) (hq : q < 4) : outB s ((q + 2) % 4) = !outB s q := by
  rcases hs with rfl | rfl
  all_goals
    match q, hq with
    | 0, _ => rfl
    | 1, _ => rfl
    | 2, _ => rfl
    | 3, _ => rfl
/-- The arc behind an arc. -/
def nx (G : Dg) (a : Nat) : Nat := G.X (G.T a 2) ((G.T a 3 + 2) % 4)
theorem nx_begin {G : Dg} (hG : GoodG G) {a : Nat} (ha : a < 2 * G.n) : nx G a < 2 * G.n ∧ G.T (nx G a) 0 = G.T a 2 ∧ G.T (nx G a) 1 = (G.T a 3 + 2) % 4 := by
  obtain ⟨t0, t1, t2, t3, x1, x2, hne⟩ := hG.T a ha
  have hq : (G.T a 3 + 2) % 4 < 4 := Nat.mod_lt _ (by omega)
  have hx := hG.X _ _ t2 hq
  have hdir := (hG.dir a ha).2
  have hdb := (hG.dir _ hx).2
  have hfl := outB_flip (hG.sign _ t2) t3
  rw [hdir] at hfl
  refine ⟨hx, ?_⟩
  rcases hG.cover _ _ t2 hq with ⟨h1, h2⟩ | ⟨h1, h2⟩
  · exact ⟨h1.symm, h2.symm⟩
  · rw [← h1, ← h2, hfl] at hdb
    cases hdb
theorem nx_perm {G : Dg} (hG : GoodG G) : PermN (2 * G.n) (nx G) :=
  ⟨fun a ha => (nx_begin hG ha).1, fun a b ha hb e => by
    obtain ⟨_, h1, h2⟩ := nx_begin hG ha
    obtain ⟨_, k1, k2⟩ := nx_begin hG hb
    obtain ⟨_, _, _, t3, _, x2, _⟩ := hG.T a ha
    obtain ⟨_, _, _, u3, _, y2, _⟩ := hG.T b hb
    rw [e] at h1 h2
    rw [← x2, ← y2, ← h1, k1, show G.T a 3 = G.T b 3 by omega]⟩
variable {E : Env} (hE : OE E)
include hE
theorem next_ {h : List O} {p : Nat} {G : Dg} (hG : GoodG G) (hd : DiagP h p G) {a : Nat} (ha : a < 2 * G.n) :
    DR E 221 [.pointer (some ⟨p, 0, none⟩), .int .i64 a] ⟨h, h.length⟩ (.ret (.int .i64 (nx G a))) ⟨h, h.length⟩ := by
  refine hE.fn (body := rb221) rfl ?_
  unfold rb221
  obtain ⟨xa, xc, ta, tc, el, own, h1, ⟨xb, xo, h2, h3⟩, ⟨tb, tt, h4, h5⟩⟩ := hd
  obtain rfl := h2 (by omega)
  obtain rfl := h4 (by omega)
  obtain ⟨t0, t1, t2, t3, _⟩ := hG.T a ha
  have e1 : ∀ l, rd (h ++ l) p 0 = some (.slice (some ⟨xb, xo, none⟩) G.n xc) := fun l => by rw [rd_def, app_of h1]; rfl
  have e2 : rd h p 2 = some (.slice (some ⟨tb, tt, none⟩) (2 * G.n) tc) := by rw [rd_def, h1]; rfl
  have e4 : rdN h tb (tt + a * 4 + 2) 2 = some [.int .i64 (G.T a 2), .int .i64 (G.T a 3)] := by
    have hr := h5 a ha
    rw [rdN_def] at hr ⊢
    cases hb : h[tb]? with
    | none => rw [hb] at hr; simp [rdNO] at hr
    | some o =>
      rw [hb] at hr
      cases o with
      | cells cs el2 own2 =>
        simp only [rdNO_cells] at hr ⊢
        split at hr
        · rw [if_pos (by omega)]
          have := congrArg (Option.map (fun l => (l.drop 2).take 2)) hr
          simp only [Option.map_some, tabC, List.drop_take, List.drop_drop] at this
          simp only [Option.some.injEq] at this ⊢
          simpa [List.take_take] using this
        · cases hr
      | _ => simp [rdNO] at hr
  have e3 : ∀ l, rd (h ++ l) xb (xo + G.T a 2 * 5 + (G.T a 3 + 2) % 4) = some (.int .i64 (nx G a)) := fun l => by
    have hq : (G.T a 3 + 2) % 4 < 4 := Nat.mod_lt _ (by omega)
    unfold nx
    generalize (G.T a 3 + 2) % 4 = q at hq ⊢
    rw [rd_of_rdN (rdN_app (h3 _ t2) l) (show q < 5 by omega)]
    match q, hq with
    | 0, _ => rfl
    | 1, _ => rfl
    | 2, _ => rfl
    | 3, _ => rfl
  have ha' : (a : Int) < 2 * (G.n : Int) := by omega
  have hw : IntKind.i64.wrap ((G.T a 3 : Int) + 2) = (G.T a 3 : Int) + 2 := by rw [w64_id] <;> omega
  have hmod : ((G.T a 3 : Int) + 2).tmod 4 = ((G.T a 3 + 2) % 4 : Nat) := tmod_add _ 2 4
  have hq' : (((G.T a 3 + 2) % 4 : Nat) : Int) < 4 := by omega
  obtain ⟨q, hqe⟩ : ∃ q, q = (G.T a 3 + 2) % 4 := ⟨_, rfl⟩
  rw [← hqe] at hmod hq' e3
  simp [e1, e2, e3, e4, rd_at, rd_at0, rdN_at, rdN_at0, wrN_at, wrN_at0, set_at0, ha, ha', t2, hw, hmod, hq', List.append_assoc, bit, back_scalar, Out.scalar, scalar, flat1, flat]
end Go.Proofs.Ytjlkndkedknocaa
namespace Go.Proofs.Ytjlkndkedknocaa
open Go Go.Ai
set_option linter.unusedSimpArgs false
set_option linter.unusedVariables false
attribute [local instance] Classical.propDecidable
/-- Arcs of one component. -/
def SameC (G : Dg) : Nat → Nat → Prop := SameO (nx G)
variable {E : Env} (hE : OE E)
include hE
theorem components_ {G : Dg} (hG : GoodG G) {h0 : List O} {p : Nat} (hd : DiagP h0 p G) :
    DC E 160 [.pointer (some ⟨p, 0, none⟩)] ⟨h0, h0.length⟩ fun o st' => ∃ (xs : List Int) (k : Nat), o = .ret (.tuple #[.slice (some ⟨h0.length, 0, none⟩) (2 * G.n) (2 * G.n), .int .i64 k]) ∧ h0.length ≤ st'.fl ∧ Sub h0 st'.h ∧
      st'.h[h0.length]? = some (.cells (intsC xs) 3 (some 0)) ∧ OrbI (2 * G.n) (nx G) (2 * G.n) k xs ∧ k ≤ 2 * G.n := by
  refine hE.fnC (body := rb160) rfl ?_
  unfold rb160
  have hN := nx_perm hG
  have hd0 := hd
  obtain ⟨xa, xc, ta, tc, el, own, hp0, _, _⟩ := hd0
  have hsz := hG.size
  have e0 : (0 : Int) ≤ 2 * G.n := by omega
  have e1 : 2 * (G.n : Int) * 8 ≤ 140737488355328 := by omega
  have e2 : 2 * (G.n : Int) < 4611686018427387904 := by omega
  have e3 : (2 * (G.n : Int)).toNat = 2 * G.n := by omega
  simp [rd_def, hp0, e0, e1, e2, e3]
  refine DW_loop (fun kk fr st => ∃ (i : Nat) (h : List O) (xs : List Int), i + kk = 2 * G.n ∧ st = ⟨h, h0.length⟩ ∧ Sub h0 h ∧ AtB h h0.length (.cells (intsC xs) 3 (some 0)) ∧ xs.length = 2 * G.n ∧ (∀ j, j < i → nth xs j = -1) ∧ get fr 0 = .pointer (some ⟨p, 0, none⟩) ∧ get fr 4 = .slice (some ⟨h0.length, 0, none⟩) (2 * G.n) (2 * G.n) ∧ get fr 16 = .int .i64 (2 * G.n) ∧ get fr 17 = .int .i64 i) ?_ (k := 2 * G.n) ?_
  · rintro kk fr st ⟨i, h, xs, hik, rfl, hsub, hatB, hlen, hm, g0, g4, g16, g17⟩
    have hat := hatB
    unfold AtB at hat
    by_cases hi : i < 2 * G.n
    · have hi' : (i : Int) < 2 * G.n := by omega
      have hw : IntKind.i64.wrap ((i : Int) + 1) = (i : Int) + 1 := by rw [w64_id] <;> omega
      have hi2 : i < xs.length := by omega
      have hi3 : i + 1 ≤ 2 * G.n := by omega
      simp [g0, g4, g16, g17, hi, hi', wrN_def, hat, hlen, intsC_set, hw, hi3]
      refine ⟨kk - 1, by omega, i + 1, by omega, hsub.set (Nat.le_refl _) _, xs.set i (-1), set_self hat, by simp [hlen], fun j hj => ?_, by omega⟩
      rw [nth_set hi2]
      by_cases e : j = i
      · rw [if_pos e]
      · rw [if_neg e]; exact hm j (by omega)
    · have hin : i = 2 * G.n := by omega
      subst hin
      simp [g0, g4, g16, g17]
      have hO := OrbI.start (f := nx G) hlen (fun j hj => hm j hj)
      refine DW_loop (fun kk fr st => ∃ (i : Nat) (h : List O) (xs : List Int) (cnt : Nat), i + kk = 2 * G.n ∧ st = ⟨h, h0.length⟩ ∧ Sub h0 h ∧ AtB h h0.length (.cells (intsC xs) 3 (some 0)) ∧ OrbI (2 * G.n) (nx G) i cnt xs ∧ cnt ≤ i ∧ get fr 0 = .pointer (some ⟨p, 0, none⟩) ∧ get fr 4 = .slice (some ⟨h0.length, 0, none⟩) (2 * G.n) (2 * G.n) ∧ get fr 6 = .int .i64 cnt ∧ get fr 25 = .int .i64 (2 * G.n) ∧ get fr 26 = .int .i64 i) ?_ (k := 2 * G.n) ?_
      · clear g0 g4 g16 g17 hO hm hlen hat hatB hsub hik
        clear xs h
        rintro kk fr st ⟨i, h, xs, cnt, hik, rfl, hsub, hatB, hO, hcnt, g0, g4, g6, g25, g26⟩
        have hat := hatB
        unfold AtB at hat
        have hlen := hO.len
        by_cases hi : i < 2 * G.n
        · have hi' : (i : Int) < 2 * G.n := by omega
          have hw : IntKind.i64.wrap ((i : Int) + 1) = (i : Int) + 1 := by rw [w64_id] <;> omega
          have hi2 : i < xs.length := by omega
          by_cases hf : 0 ≤ nth xs i
          · simp [g0, g4, g6, g25, g26, hi, hi', rd_def, hat, intsC_get hi2, hf, hw]
            exact ⟨kk - 1, by omega, i + 1, by omega, hsub, xs, hatB, cnt, hO.skip hf, by omega, rfl, by omega⟩
          · have hneg : nth xs i < 0 := by omega
            simp [g0, g4, g6, g25, g26, hi, hi', rd_def, hat, intsC_get hi2, hf]
            obtain ⟨P, ⟨p1, p2, p3⟩, p4⟩ := hN.period hi
            refine DW_loop (fun kk' fr st => ∃ (t : Nat) (h : List O) (xs' : List Int), t + kk' = P ∧ st = ⟨h, h0.length⟩ ∧ Sub h0 h ∧ AtB h h0.length (.cells (intsC xs') 3 (some 0)) ∧ OrbT (2 * G.n) (nx G) i cnt t xs xs' ∧ get fr 0 = .pointer (some ⟨p, 0, none⟩) ∧ get fr 4 = .slice (some ⟨h0.length, 0, none⟩) (2 * G.n) (2 * G.n) ∧ get fr 6 = .int .i64 cnt ∧ get fr 25 = .int .i64 (2 * G.n) ∧ get fr 26 = .int .i64 i ∧ get fr 8 = .int .i64 (itr (nx G) i t)) ?_ (k := P) ?_
            · clear g0 g4 g6 g25 g26
              rintro kk' fr st ⟨t, h', xs', htk, rfl, hsub', hatB', hT, g0, g4, g6, g25, g26, g8⟩
              have hat' := hatB'
              unfold AtB at hat'
              have hb := hN.itr_lt hi t
              have hb' : ((itr (nx G) i t : Nat) : Int) < 2 * G.n := by omega
              have hb2 : itr (nx G) i t < xs'.length := by rw [hT.len]; exact hb
              have hb3 : itr (nx G) i t + 1 ≤ 2 * G.n := by omega
              by_cases ht : t < P
              · have hng := hT.neg hN hO hi hneg p4 ht
                have hnx := fun l => next_ hE (h := h'.set h0.length l) hG (hd.sub (hsub'.set (Nat.le_refl _) l)) hb
                simp only [List.length_set] at hnx
                simp [g0, g4, g6, g25, g26, g8, hb', rd_def, wrN_def, hat', intsC_get hb2, hng, intsC_set, hT.len, hb3, DC_of (hnx _), joined_fl]
                exact ⟨kk' - 1, by omega, t + 1, by omega, hsub'.set (Nat.le_refl _) _, _, set_self hat', hT.next hb, rfl⟩
              · have : t = P := by omega
                subst this
                have hng : ¬ nth xs' (itr (nx G) i t) < 0 := by
                  rw [hT.at_, if_pos ⟨0, p1, by rw [p2]; rfl⟩]; omega
                have hw2 : IntKind.i64.wrap ((cnt : Int) + 1) = (cnt : Int) + 1 := by rw [w64_id] <;> omega
                simp [g0, g4, g6, g25, g26, g8, hb', rd_def, hat', intsC_get hb2, hng, hw, hw2]
                exact ⟨kk - 1, by omega, i + 1, by omega, hsub', xs', hatB', cnt + 1, hT.finish hN hO hi hneg p1 p2, by omega, by omega, by omega⟩
            · exact ⟨0, h, xs, by omega, rfl, hsub, hatB, OrbT.start hO, by simp [g0, g4, g6, g25, g26, itr]⟩
        · have hin : i = 2 * G.n := by omega
          have hi' : ¬ (i : Int) < 2 * G.n := by omega
          simp [g0, g4, g6, g25, g26, hi', endK_ret]
          unfold pairQ back
          rw [if_neg (by simp [Out.scalar, scalar, flat1, flat])]
          rw [hin] at hO hcnt
          exact ⟨xs, cnt, rfl, Nat.le_refl _, hsub, hat, hO, hcnt⟩
      · exact ⟨0, h, xs, 0, by omega, rfl, hsub, hatB, hO, by omega, by simp [g0, g4]⟩
  · refine ⟨0, _, List.replicate (2 * G.n) 0, by omega, rfl, (Sub.refl h0).app _, ?_, by simp, fun j h => by omega, by simp⟩
    unfold AtB
    rw [app_at0]
    simp [rep, intsC]
end Go.Proofs.Ytjlkndkedknocaa
namespace Go.Proofs.Ytjlkndkedknocaa
open Go Go.Ai
set_option linter.unusedSimpArgs false
set_option linter.unusedVariables false
attribute [local instance] Classical.propDecidable
/-- What Check says. -/
noncomputable def kindD (n : Nat) (x : Nat → Nat → Int) (s : Nat → Int) (L : Int) : Int := if Snd n x s L then (if PlanG (dgOf n x s L) then 0 else 221) else 220
theorem kind_ok {n : Nat} {x : Nat → Nat → Int} {s : Nat → Int} {L : Int} (h1 : Snd n x s L) (h2 : PlanG (dgOf n x s L)) : kindD n x s L = 0 := by unfold kindD; rw [if_pos h1, if_pos h2]
theorem kind_zero {n : Nat} {x : Nat → Nat → Int} {s : Nat → Int} {L : Int} (h : kindD n x s L = 0) : Snd n x s L ∧ PlanG (dgOf n x s L) := by
  unfold kindD at h
  by_cases h1 : Snd n x s L
  · rw [if_pos h1] at h
    by_cases h2 : PlanG (dgOf n x s L)
    · exact ⟨h1, h2⟩
    · rw [if_neg h2] at h; cases h
  · rw [if_neg h1] at h; cases h
variable {E : Env} (hE : OE E)
include hE
theorem enter_k {h0 : List O} {a : Option Addr} {n c : Nat} {x : Nat → Nat → Int} {s : Nat → Int} {L : Int} (hx : CrossP h0 a n x s) :
    DC E 157 [dV a n c L] ⟨h0, h0.length⟩ fun o st' =>
      (kindD n x s L = 0 ∧ ∃ p, o = .ret (.tuple #[.pointer (some ⟨p, 0, none⟩), .int .i64 0]) ∧ DiagP st'.h p (dgOf n x s L) ∧ Sub h0 st'.h ∧ h0.length ≤ st'.fl ∧ h0.length ≤ p) ∨
      (kindD n x s L ≠ 0 ∧ o = .ret (.tuple #[.pointer none, .int .i64 (kindD n x s L)]) ∧ st' = ⟨h0, h0.length⟩) := by
  refine (enter_ hE hx).imp ?_
  rintro o st' (⟨h1, h2, p, h3⟩ | ⟨h1, h2, h3, h4⟩ | ⟨h1, h3, h4⟩)
  · exact .inl ⟨kind_ok h1 h2, p, h3⟩
  · have : kindD n x s L = 221 := by unfold kindD; rw [if_pos h1, if_neg h2]
    rw [this]; exact .inr ⟨by decide, h3, h4⟩
  · have : kindD n x s L = 220 := by unfold kindD; rw [if_neg h1]
    rw [this]; exact .inr ⟨by decide, h3, h4⟩
theorem check_ {h0 : List O} {a : Option Addr} {n c : Nat} {x : Nat → Nat → Int} {s : Nat → Int} {L : Int} (hx : CrossP h0 a n x s) :
    DR E 87 [dV a n c L] ⟨h0, h0.length⟩ (.ret (.int .i64 (kindD n x s L))) ⟨h0, h0.length⟩ := by
  refine hE.fn (body := rb87) rfl ?_
  unfold rb87
  have hx1 : CrossP (h0 ++ [O.cells [.slice a n c, .int .i64 L] 24 (some 0)]) a n x s := hx.ext (Ext.snoc _ _)
  have h1 := enter_k hE (c := c) (L := L) hx1
  simp [dV] at h1
  simp [dV, rdN_at0]
  refine h1.imp ?_
  rintro o ⟨h', f'⟩ (⟨hk, p, rfl, hd, hs, hf, hp⟩ | ⟨hk, rfl, rfl, rfl⟩)
  · simp only at hf
    simp [joined_fl, hf, hk, back_scalar, Out.scalar, scalar, flat1, flat]
  · simp [joined_fl, back_scalar, Out.scalar, scalar, flat1, flat]
theorem regions_ {h0 : List O} {a : Option Addr} {n c : Nat} {x : Nat → Nat → Int} {s : Nat → Int} {L : Int} (hx : CrossP h0 a n x s) (hk : kindD n x s L = 0) :
    DC E 158 [dV a n c L] ⟨h0, h0.length⟩ fun o st' => ∃ v, o = .ret (.tuple #[v, .int .i64 0]) ∧ h0.length ≤ st'.fl ∧ Sub h0 st'.h ∧ RegsP st'.h h0.length v (regs (dgOf n x s L)) := by
  refine hE.fnC (body := rb158) rfl ?_
  unfold rb158
  have hx1 : CrossP (h0 ++ [O.cells [.slice a n c, .int .i64 L] 24 (some 0)]) a n x s := hx.ext (Ext.snoc _ _)
  have h1 := enter_k hE (c := c) (L := L) hx1
  simp [dV] at h1
  simp [dV, rdN_at0]
  refine h1.imp ?_
  rintro o ⟨h', f'⟩ (⟨_, p, rfl, hd, hs, hf, hp⟩ | ⟨hk', _⟩)
  · simp only at hf hd hs
    simp [joined_fl, hf]
    refine (regions111 hE (good_of (kind_zero hk).1) hd).imp ?_
    rintro o ⟨h2, f2⟩ ⟨v, rfl, hf2, hs2, hR⟩
    simp only at hf2 hs2 hR
    have hs02 : Sub h0 h2 := ((Sub.refl h0).app _).trans (hs.trans hs2)
    have hsl := hs.len
    simp at hsl
    obtain ⟨ra, rfl, _⟩ := RegsP.look (good_of (kind_zero hk).1) hR
    simp [joined_fl, hf2]
    unfold pairQ back
    have hR0 : RegsP h2 h0.length (.slice ra (regs (dgOf n x s L)).length (regs (dgOf n x s L)).length) (regs (dgOf n x s L)) := by
      obtain ⟨vs, h1, h2⟩ := hR
      exact ⟨vs, h1.low (by omega), fun i r hr => by obtain ⟨v', a1, a2⟩ := h2 i r hr; exact ⟨v', a1, a2.low (by omega)⟩⟩
    split
    · rename_i hc
      rcases hR0.choose_spec.1.2 with ⟨h5, h6⟩ | ⟨b, h5, _⟩
      · have hL : regs (dgOf n x s L) = [] := List.length_eq_zero_iff.1 h6
        refine ⟨_, rfl, Nat.le_refl _, Sub.refl _, ?_⟩
        rw [h5, hL]
        exact ⟨[], OwnA.nil _ _ _ _, fun i r h => by simp at h⟩
      · simp only [Value.slice.injEq] at h5
        rw [h5.1] at hc
        simp [Out.scalar, scalar, flat1, flat] at hc
    · exact ⟨_, rfl, Nat.le_refl _, hs02, hR0⟩
  · exact absurd hk hk'
theorem componentsP_ {h0 : List O} {a : Option Addr} {n c : Nat} {x : Nat → Nat → Int} {s : Nat → Int} {L : Int} (hx : CrossP h0 a n x s) (hk : kindD n x s L = 0) :
    DC E 90 [dV a n c L] ⟨h0, h0.length⟩ fun o st' => ∃ (b k : Nat) (xs : List Int), o = .ret (.tuple #[.slice (some ⟨b, 0, none⟩) (2 * n) (2 * n), .int .i64 (k + L), .int .i64 0]) ∧ h0.length ≤ b ∧ h0.length ≤ st'.fl ∧ Sub h0 st'.h ∧
      AtB st'.h b (.cells (intsC xs) 3 (some 0)) ∧ OrbI (2 * n) (nx (dgOf n x s L)) (2 * n) k xs ∧ k ≤ 2 * n := by
  refine hE.fnC (body := rb90) rfl ?_
  unfold rb90
  have hx1 : CrossP (h0 ++ [O.cells [.slice a n c, .int .i64 L] 24 (some 0)]) a n x s := hx.ext (Ext.snoc _ _)
  have h1 := enter_k hE (c := c) (L := L) hx1
  simp [dV] at h1
  simp [dV, rdN_at0]
  refine h1.imp ?_
  rintro o ⟨h', f'⟩ (⟨_, p, rfl, hd, hs, hf, hp⟩ | ⟨hk', _⟩)
  · simp only at hf hd hs
    simp [joined_fl, hf]
    have hG := good_of (kind_zero hk).1
    refine (components_ hE hG hd).imp ?_
    rintro o ⟨h2, f2⟩ ⟨xs, k, rfl, hf2, hs2, hat, hO, hk2⟩
    simp only at hf2 hs2 hat
    have hs02 : Sub h0 h2 := ((Sub.refl h0).app _).trans (hs.trans hs2)
    have hsl := hs.len
    simp at hsl
    have hd2 := hd.sub hs2
    obtain ⟨xa, xc, ta, tc, el, own, hp0, _, _⟩ := hd2
    have hL := hG.loops
    have hn := hG.size
    have hGn : (dgOf n x s L).n = n := rfl
    have hGL : (dgOf n x s L).L = L := rfl
    have hw : IntKind.i64.wrap ((k : Int) + L) = k + L := by rw [w64_id] <;> omega
    rw [hGL] at hL hp0
    rw [hGn] at hn hk2 hO hp0
    simp [joined_fl, hf2, rd_def, hp0, hw]
    unfold pairQ back
    rw [if_neg (by simp [Out.scalar, scalar, flat1, flat])]
    exact ⟨h'.length, k, rfl, by omega, Nat.le_refl _, hs02, xs, hat, hO, hk2⟩
  · exact absurd hk hk'
end Go.Proofs.Ytjlkndkedknocaa
namespace Go.Ai
set_option linter.unusedSimpArgs false
set_option linter.unusedVariables false
def boolsC (bs : List Bool) : List Value := bs.map .bool
def bnth (bs : List Bool) (i : Nat) : Bool := bs.getD i false
@[simp] theorem boolsC_length (bs : List Bool) : (boolsC bs).length = bs.length := by simp [boolsC]
theorem boolsC_get {bs : List Bool} {i : Nat} (hi : i < bs.length) : (boolsC bs)[i]? = some (.bool (bnth bs i)) := by simp [boolsC, hi, bnth]
@[simp] theorem boolsC_getElem {bs : List Bool} {i : Nat} (h : i < (boolsC bs).length) : (boolsC bs)[i] = .bool (bnth bs i) := by
  have h' : i < bs.length := by simpa using h
  simp [boolsC, bnth, h']
theorem boolsC_set (bs : List Bool) (i : Nat) (x : Bool) : (boolsC bs).set i (.bool x) = boolsC (bs.set i x) := by simp [boolsC, List.map_set]
theorem bnth_set {bs : List Bool} {i j : Nat} {x : Bool} (hi : i < bs.length) : bnth (bs.set i x) j = if j = i then x else bnth bs j := by
  unfold bnth
  by_cases h : j = i
  · subst h; simp [hi]
  · rw [if_neg h, List.getD_eq_getElem?_getD, List.getElem?_set_ne (Ne.symm h), ← List.getD_eq_getElem?_getD]
theorem bnth_rep {n i : Nat} {x : Bool} (hi : i < n) : bnth (List.replicate n x) i = x := by simp [bnth, hi]
end Go.Ai
namespace Go.Proofs.Ytjlkndkedknocaa
open Go Go.Ai
set_option linter.unusedSimpArgs false
set_option linter.unusedVariables false
attribute [local instance] Classical.propDecidable
/-- A mixed diagram, if it is valid. -/
def MixG (G : Dg) : Prop := G.n ≠ 0 ∧ G.L = 0 ∧ (regs G).length = G.n + 2 ∧ ∀ a, a < 2 * G.n → (∃ c, c < G.n ∧ SameC G (G.X c 0) a) ∧ ∃ c, c < G.n ∧ SameC G (G.X c 1) a
variable {E : Env} (hE : OE E)
include hE
theorem indexB_ {h : List O} {b n c : Nat} {bs : List Bool} {v : Bool} {el : TypeId} {own : Option Nat} (hb : h[b]? = some (.cells (boolsC bs) el own)) (hn : bs.length = n) (hlt : n < 1000000) :
    DC E 220 [.slice (some ⟨b, 0, none⟩) n c, .bool v] ⟨h, h.length⟩ fun o st' => ∃ r : Int, o = .ret (.int .i64 r) ∧ st' = ⟨h, h.length⟩ ∧ (0 ≤ r ↔ ∃ i, i < n ∧ bnth bs i = v) := by
  refine hE.fnC (body := rb220) rfl ?_
  unfold rb220
  simp
  refine DW_loop (fun kk fr st => ∃ (i : Nat), i + kk = n ∧ st = ⟨h, h.length⟩ ∧ (∀ j, j < i → bnth bs j ≠ v) ∧ get fr 0 = .slice (some ⟨b, 0, none⟩) n c ∧ get fr 1 = .bool v ∧ get fr 7 = .int .i64 n ∧ get fr 8 = .int .i64 i) ?_ (k := n) ?_
  · rintro kk fr st ⟨i, hik, rfl, hm, g0, g1, g7, g8⟩
    by_cases hi : i < n
    · have hw : IntKind.i64.wrap ((i : Int) + 1) = (i : Int) + 1 := by rw [w64_id] <;> omega
      have hi2 : i < bs.length := by omega
      by_cases hv : bnth bs i = v
      · simp [g0, g1, g7, g8, hi, rd_def, hb, boolsC_get hi2, hv]
        exact ⟨i, hi, hv⟩
      · have hv' : v ≠ bnth bs i := fun e => hv e.symm
        have hv2 : (v == bnth bs i) = false := by simpa using hv'
        simp [g0, g1, g7, g8, hi, rd_def, hb, boolsC_get hi2, hv2, hw]
        refine ⟨kk - 1, by omega, i + 1, by omega, fun j hj => ?_, by omega⟩
        by_cases e : j = i
        · rw [e]; exact hv
        · exact hm j (by omega)
    · have hin : i = n := by omega
      subst hin
      simp [g0, g1, g7, g8]
      exact hm
  · exact ⟨0, by omega, rfl, fun j h => by omega, by simp⟩
theorem containsB_ {h : List O} {b n c : Nat} {bs : List Bool} {v : Bool} {el : TypeId} {own : Option Nat} (hb : h[b]? = some (.cells (boolsC bs) el own)) (hn : bs.length = n) (hlt : n < 1000000) :
    DR E 159 [.slice (some ⟨b, 0, none⟩) n c, .bool v] ⟨h, h.length⟩ (.ret (.bool (decide (∃ i, i < n ∧ bnth bs i = v)))) ⟨h, h.length⟩ := by
  refine hE.fn (body := rb159) rfl ?_
  unfold rb159
  simp
  refine (indexB_ hE hb hn hlt).imp ?_
  rintro o st' ⟨r, rfl, rfl, hr⟩
  simp [hr]
theorem mixed_ {h0 : List O} {a : Option Addr} {n c : Nat} {x : Nat → Nat → Int} {s : Nat → Int} {L : Int} (hx : CrossP h0 a n x s) (hk : kindD n x s L = 0) :
    DR E 88 [dV a n c L] ⟨h0, h0.length⟩ (.ret (.bool (decide (MixG (dgOf n x s L))))) ⟨h0, h0.length⟩ := by
  refine hE.fn (body := rb88) rfl ?_
  unfold rb88
  obtain ⟨G, hGe⟩ : ∃ G, G = dgOf n x s L := ⟨_, rfl⟩
  have hG : GoodG G := by rw [hGe]; exact good_of (kind_zero hk).1
  have hGn : G.n = n := by rw [hGe]; rfl
  have hGL : G.L = L := by rw [hGe]; rfl
  have hXe : ∀ i q, G.X i q = (x i q).toNat := fun i q => by rw [hGe]; rfl
  have hsz := hG.size
  have hLL := hG.loops
  rw [hGn] at hsz
  rw [hGL] at hLL
  have hbad : ∀ h' f, h0.length ≤ f → ¬ MixG G → pairQ (back ⟨h0, h0.length⟩ (.ret (.bool false)) ⟨h', f⟩) fun o2 st2 => o2 = .ret (.bool (decide (MixG G))) ∧ st2 = ⟨h0, h0.length⟩ := fun h' f hf hm => by
    unfold pairQ
    rw [back_scalar (by simp [Out.scalar, scalar, flat1, flat]) hf]
    simp [hm]
  rw [← hGe]
  by_cases hn : n = 0
  · subst hn
    simp [dV, rd_at0, rdN_at0]
    exact fun h => h.1 hGn
  have hx1 : CrossP (h0 ++ [O.cells [.slice a n c, .int .i64 L] 24 (some 0)]) a n x s := hx.ext (Ext.snoc _ _)
  by_cases hL : 0 < L
  · simp [dV, rd_at0, rdN_at0, hn, hL]
    exact fun h => by have := h.2.1; omega
  have hL0 : L = 0 := by omega
  have hr := regions_ hE (c := c) hx1 hk
  obtain ⟨hB, hhB⟩ : ∃ H, H = h0 ++ [O.cells [.slice a n c, .int .i64 L] 24 (some 0)] := ⟨_, rfl⟩
  have hBat : hB[h0.length]? = some (O.cells [.slice a n c, .int .i64 L] 24 (some 0)) := by rw [hhB, app_at0]; rfl
  have lB : hB.length = h0.length + 1 := by rw [hhB]; simp
  rw [← hhB] at hr hx1
  rw [← hGe] at hr
  simp [dV] at hr
  simp [dV, rd_at0, rdN_at0, hn, hL]
  rw [← hhB, ← lB]
  have hbr : ∀ h', Sub hB h' → rdN h' h0.length 0 2 = some [.slice a n c, .int .i64 L] := fun h' hs => by rw [rdN_def, hs _ _ hBat]; rfl
  have hbr0 : ∀ h', Sub hB h' → rd h' h0.length 0 = some (.slice a n c) := fun h' hs => by rw [rd_def, hs _ _ hBat]; rfl
  refine hr.imp ?_
  rintro o ⟨h1, f1⟩ ⟨v, rfl, hf1, hs1, hR⟩
  simp only at hf1 hs1 hR
  obtain ⟨ra, rfl, _⟩ := RegsP.look hG hR
  have hw : IntKind.i64.wrap ((n : Int) + 2) = (n : Int) + 2 := by rw [w64_id] <;> omega
  by_cases hrl : (regs G).length = n + 2
  · have hrl' : ((n : Int) + 2 = (n : Int) + 2) = True := by simp
    have hcm := componentsP_ hE (c := c) (L := L) (hx1.sub hs1) hk
    rw [← hGe] at hcm
    simp [dV] at hcm
    simp [joined_fl, hf1, hbr0 _ hs1, hbr _ hs1, hrl, hw]
    refine hcm.imp ?_
    rintro o ⟨h2, f2⟩ ⟨b, k, rfl, hb, hf2, hs2, xs, hatB, hO, hk2⟩
    simp only at hf2 hs2 hatB
    have hlb := (List.getElem?_eq_some_iff.1 hatB).1
    have hs02 : Sub hB h2 := hs1.trans hs2
    have e1 : (k : Int) + L = k := by omega
    have e2 : (k : Int) * 1 ≤ 140737488355328 := by omega
    have e3 : (k : Int) < 4611686018427387904 := by omega
    have e4 : (k : Int) ≤ 140737488355328 := by omega
    obtain ⟨H, hH⟩ : ∃ H, H = h2 ++ [O.cells (boolsC (List.replicate k false)) 4 (some 0), O.cells (boolsC (List.replicate k false)) 4 (some 0)] := ⟨_, rfl⟩
    have hrep : rep k [Value.bool false] = boolsC (List.replicate k false) := by simp [rep, boolsC]
    have h8 : H[h2.length]? = some (O.cells (boolsC (List.replicate k false)) 4 (some 0)) := by rw [hH, app_at0]; rfl
    have h9 : H[h2.length + 1]? = some (O.cells (boolsC (List.replicate k false)) 4 (some 0)) := by rw [hH, app_at]; rfl
    have hs2H : Sub h2 H := by rw [hH]; exact (Sub.refl _).app _
    have hBH := hs2H _ _ (hs02 _ _ hBat)
    have lH : H.length = h2.length + 2 := by rw [hH]; simp
    have lh02 := hs02.len
    have hmin8 : min h0.length h2.length = h0.length := by omega
    simp [joined_fl, hf2, e1, e2, e3, e4, hrep]
    simp [← hH, rd_def, hBH]
    refine DW_loop (fun kk fr st => ∃ (i : Nat) (h : List O) (lo up : List Bool), i + kk = n ∧ st = ⟨h, h0.length⟩ ∧ (∀ (b : Nat) (o : O), h2[b]? = some o → h[b]? = some o) ∧ AtB h h2.length (.cells (boolsC lo) 4 (some 0)) ∧ AtB h (h2.length + 1) (.cells (boolsC up) 4 (some 0)) ∧ lo.length = k ∧ up.length = k ∧
      (∀ j, j < k → (bnth lo j = true ↔ ∃ i', i' < i ∧ nth xs (G.X i' 0) = j)) ∧ (∀ j, j < k → (bnth up j = true ↔ ∃ i', i' < i ∧ nth xs (G.X i' 1) = j)) ∧
      get fr 1 = .pointer (some ⟨h0.length, 0, none⟩) ∧ get fr 5 = .slice (some ⟨b, 0, none⟩) (2 * n) (2 * n) ∧ get fr 8 = .slice (some ⟨h2.length, 0, none⟩) k k ∧ get fr 9 = .slice (some ⟨h2.length + 1, 0, none⟩) k k ∧ get fr 48 = .slice a n c ∧ get fr 49 = .int .i64 n ∧ get fr 50 = .int .i64 i) ?_ (k := n) ?_
    · rintro kk fr st ⟨i, h, lo, up, hik, rfl, hsub, hlo, hup, hll, hul, hF, hU, g1, g5, g8, g9, g48, g49, g50⟩
      have hlo' := hlo
      have hup' := hup
      unfold AtB at hlo' hup'
      have h8l := (List.getElem?_eq_some_iff.1 hlo').1
      have h9l := (List.getElem?_eq_some_iff.1 hup').1
      have hwx : ∀ i', i' < n → ∀ q, q < 4 → ∃ j : Nat, nth xs (G.X i' q) = j ∧ j < k ∧ G.X i' q < 2 * n ∧ x i' q = G.X i' q := fun i' hi' q hq => by
        have h1 := hG.X i' q (by omega) hq
        rw [hGn] at h1
        have h2 := hO.done _ h1
        have h4 : 0 ≤ x i' q := by
          have := ((kind_zero hk).1.range (4 * i' + q) (by omega)).1
          unfold use at this
          rw [show (4 * i' + q) / 4 = i' by omega, show (4 * i' + q) % 4 = q by omega] at this
          exact this
        have h5 := hXe i' q
        rcases hO.val _ h1 with h3 | h3
        · omega
        · exact ⟨(nth xs (G.X i' q)).toNat, by omega, by omega, h1, by omega⟩
      by_cases hi : i < n
      · have hw : IntKind.i64.wrap ((i : Int) + 1) = (i : Int) + 1 := by rw [w64_id] <;> omega
        obtain ⟨xb, xo, hxa, hxr⟩ := hx
        obtain rfl := hxa (by omega)
        have hsub0 : Sub h0 h := ((Sub.refl h0).app _).trans ((hhB ▸ hs02).trans hsub)
        have hcr := hsub0.rdN (hxr i hi)
        rw [rdN_def] at hcr
        obtain ⟨j0, j1, j2, j3, j4⟩ := hwx i hi 0 (by omega)
        obtain ⟨u0, u1, u2, u3, u4⟩ := hwx i hi 1 (by omega)
        have hlx := hO.len
        have hjx : G.X i 0 < xs.length := by omega
        have hux : G.X i 1 < xs.length := by omega
        have hat := hsub _ _ hatB
        have hat1 : ∀ l, (h ++ l)[b]? = _ := fun l => app_of hat l
        have hlo1 : ∀ l, (h ++ l)[h2.length]? = _ := fun l => app_of hlo' l
        have hup1 : ∀ l, (h ++ l)[h2.length + 1]? = _ := fun l => app_of hup' l
        have d1 : ((G.X i 0 : Nat) : Int) < 2 * n := by omega
        have d2 : ((G.X i 1 : Nat) : Int) < 2 * n := by omega
        have d3 : j0 + 1 ≤ k := by omega
        have d4 : u0 + 1 ≤ k := by omega
        have hne : h2.length + 1 ≠ h2.length := by omega
        have hsn : ∀ l o, ((h ++ l).set h2.length o)[h2.length + 1]? = (h ++ l)[h2.length + 1]? := fun l o => List.getElem?_set_ne (by omega)
        simp only [crossC] at hcr
        simp [g1, g5, g8, g9, g48, g49, g50, hi, rdN_def, rd_def, hcr, wrN_at0, wrN_def, set_at0, app_at0, hat1, hlo1, hup1, j4, u4, d1, d2, intsC_get hjx, intsC_get hux, j1, u1, j2, u2, d3, d4, boolsC_set, hll, hul, hw, bit, hsn, hmin8]
        refine ⟨kk - 1, by omega, i + 1, by omega, _, ⟨rfl, by omega⟩, fun b' o hb' => ?_, lo.set j0 true, ?_, up.set u0 true, ?_, by simp [hll], by simp [hul], fun j hj => ?_, fun j hj => ?_, by omega⟩
        · have := (List.getElem?_eq_some_iff.1 hb').1
          exact set_ne (set_ne (app_of (hsub _ _ hb') _) (by omega)) (by omega)
        · exact set_ne (set_self (hlo1 _)) (by omega)
        · exact set_self ((hsn _ _).trans (hup1 _))
        · rw [bnth_set (by omega)]
          by_cases e : j = j0
          · rw [if_pos e]; exact ⟨fun _ => ⟨i, by omega, by rw [j1, e]⟩, fun _ => rfl⟩
          · rw [if_neg e, hF j hj]
            constructor
            · rintro ⟨i', a1, a2⟩; exact ⟨i', by omega, a2⟩
            · rintro ⟨i', a1, a2⟩
              by_cases e2 : i' = i
              · subst e2; omega
              · exact ⟨i', by omega, a2⟩
        · rw [bnth_set (by omega)]
          by_cases e : j = u0
          · rw [if_pos e]; exact ⟨fun _ => ⟨i, by omega, by rw [u1, e]⟩, fun _ => rfl⟩
          · rw [if_neg e, hU j hj]
            constructor
            · rintro ⟨i', a1, a2⟩; exact ⟨i', by omega, a2⟩
            · rintro ⟨i', a1, a2⟩
              by_cases e2 : i' = i
              · subst e2; omega
              · exact ⟨i', by omega, a2⟩
      · have hin : i = n := by omega
        subst hin
        have c1 := containsB_ hE (c := k) (v := false) hlo' hll (by omega)
        have c2 := containsB_ hE (c := k) (v := false) hup' hul (by omega)
        have key : ∀ q, q < 4 → ∀ bs : List Bool, (∀ j, j < k → (bnth bs j = true ↔ ∃ i', i' < i ∧ nth xs (G.X i' q) = j)) → ((¬ ∃ j, j < k ∧ bnth bs j = false) ↔ ∀ a, a < 2 * i → ∃ c, c < i ∧ SameC G (G.X c q) a) := fun q hq bs hbs => by
          constructor
          · intro hn a ha
            have h2 := hO.done _ ha
            obtain ⟨j, hj1, hj2⟩ : ∃ j : Nat, nth xs a = j ∧ j < k := by
              rcases hO.val _ ha with h3 | h3
              · omega
              · exact ⟨(nth xs a).toNat, by omega, by omega⟩
            have ht : bnth bs j = true := by
              cases hb : bnth bs j
              · exact absurd ⟨j, hj2, hb⟩ hn
              · rfl
            obtain ⟨i', a1, a2⟩ := (hbs j hj2).1 ht
            refine ⟨i', a1, (hO.rel _ _ (hwx i' a1 q hq).choose_spec.2.2.1 ha ?_).1 (by rw [a2, hj1])⟩
            omega
          · rintro hall ⟨j, hj, hf⟩
            obtain ⟨a, a1, a2, _⟩ := hO.ord j hj
            obtain ⟨c', b1, b2⟩ := hall a a1
            obtain ⟨j', e1, e2, e3, _⟩ := hwx c' b1 q hq
            have := (hO.rel _ _ e3 a1 (by omega)).2 b2
            have := (hbs j hj).2 ⟨c', b1, by omega⟩
            rw [this] at hf; cases hf
        have k1 := key 0 (by omega) lo hF
        have k2 := key 1 (by omega) up hU
        have hmix : MixG G ↔ (¬ ∃ j, j < k ∧ bnth lo j = false) ∧ ¬ ∃ j, j < k ∧ bnth up j = false := by
          rw [k1, k2]
          unfold MixG
          rw [hGn, hGL]
          constructor
          · rintro ⟨_, _, _, h4⟩; exact ⟨fun a ha => (h4 a ha).1, fun a ha => (h4 a ha).2⟩
          · rintro ⟨h4, h5⟩; exact ⟨hn, hL0, hrl, fun a ha => ⟨h4 a ha, h5 a ha⟩⟩
        by_cases d1 : ∃ j, j < k ∧ bnth lo j = false
        · have : ¬ MixG G := fun h => (hmix.1 h).1 d1
          simp [g1, g5, g8, g9, g48, g49, g50, DC_of c1, d1, eq_true d1]
          simpa using this
        · by_cases d2 : ∃ j, j < k ∧ bnth up j = false
          · have : ¬ MixG G := fun h => (hmix.1 h).2 d2
            simp only [eq_false d1, eq_true d2] at c1 c2
            simp [g1, g5, g8, g9, g48, g49, g50, DC_of c1, DC_of c2]
            simpa using this
          · have : MixG G := hmix.2 ⟨d1, d2⟩
            simp only [eq_false d1, eq_false d2] at c1 c2
            simp [g1, g5, g8, g9, g48, g49, g50, DC_of c1, DC_of c2]
            simpa using this
    · refine ⟨0, H, List.replicate k false, List.replicate k false, by omega, rfl, fun b o hb => hs2H b o hb, h8, h9, by simp, by simp, fun j hj => ?_, fun j hj => ?_, by simp⟩
      · rw [bnth_rep hj]; simp
      · rw [bnth_rep hj]; simp
  · have hrl' : ((regs G).length : Int) ≠ (n : Int) + 2 := by omega
    simp [joined_fl, hf1, hbr0 _ hs1, hbr _ hs1, hrl, hrl', hw]
    exact fun h => by have := h.2.2.1; omega
end Go.Proofs.Ytjlkndkedknocaa
