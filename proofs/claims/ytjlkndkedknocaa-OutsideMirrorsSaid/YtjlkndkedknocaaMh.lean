/- Texts that were built one by one: Mi3, Mi4, Mi5, Mi6, Ra20, Ra21, Ra22, Rg2, Rg3, Wc2, Wr4, Wc4, Wc5, Wc6, Wc7, Wc8, Wc9, Wd1, Wd2, Wc3, Wd3, Wd4, Wq1, Wo0, Wo1, AiO, Wo2, Wb1, Wb2, Wb3, Wb4, Wb5, Wo3, Wo4, Wo5, Wo6, Wl1, Wl2, Wq2, Wq3, Rg4, Rg5, Rg6, Or2. -/
import Derived.Test.YtjlkndkedknocaaMg
import Derived.Test.YtjlkndkedknocaaMf
import Derived.Test.YtjlkndkedknocaaMd
import Derived.KernelRfl
set_option linter.unusedSimpArgs false
set_option linter.unusedVariables false
namespace Go.Proofs.Ytjlkndkedknocaa
open Go Go.Ai
attribute [local instance] Classical.propDecidable
theorem use_at (x : Nat → Nat → Int) (s : Nat → Int) {i q : Nat} (hq : q < 4) : use x s (4 * i + q) = (x i q, outB (s i) q) := by
 unfold use
 rw [show (4 * i + q) / 4 = i by omega, show (4 * i + q) % 4 = q by omega]
theorem snd_der {n : Nat} {x x' : Nat → Nat → Int} {s s' : Nat → Int} {L : Int} (h : Snd n x s L) (π : Nat → Nat → Nat) (flip : Bool) (hx : ∀ i q, x' i q = x i (π i q)) (hs : ∀ i, i < n → s' i = 1 ∨ s' i = -1) (hπ : ∀ i q, π i q < 4) (hi : ∀ i q r, i < n → q < 4 → r < 4 → π i q = π i r → q = r)
  (ho : ∀ i q, i < n → q < 4 → outB (s' i) q = (flip ^^ outB (s i) (π i q))) : Snd n x' s' L := by
 have hu : ∀ i q, i < n → q < 4 → use x' s' (4 * i + q) = ((use x s (4 * i + π i q)).1, flip ^^ (use x s (4 * i + π i q)).2) := fun i q hin hq => by
  rw [use_at x' s' hq, use_at x s (hπ i q), hx, ho i q hin hq]
 have hj : ∀ j, j < 4 * n → ∃ i q, i < n ∧ q < 4 ∧ j = 4 * i + q := fun j h => ⟨j / 4, j % 4, by omega, by omega, by omega⟩
 refine ⟨h.size, h.loops, hs, fun j hjn => ?_, fun j j' hjj hj' e => ?_⟩
 ·obtain ⟨i, q, h1, h2, rfl⟩ := hj j hjn
  have := hπ i q
  rw [hu i q h1 h2]
  exact h.range _ (by omega)
 ·obtain ⟨i, q, h1, h2, rfl⟩ := hj j (by omega)
  obtain ⟨i', q', h1', h2', rfl⟩ := hj j' hj'
  rw [hu i q h1 h2, hu i' q' h1' h2'] at e
  have p1 := hπ i q
  have p2 := hπ i' q'
  have e1 := congrArg Prod.fst e
  have e2 := congrArg Prod.snd e
  simp only at e1 e2
  have e3 : (use x s (4 * i + π i q)).2 = (use x s (4 * i' + π i' q')).2 := by
   revert e2
   cases flip <;> cases (use x s (4 * i + π i q)).2 <;> cases (use x s (4 * i' + π i' q')).2 <;> simp
  have := h.inj (by omega) (by omega) (Prod.ext e1 e3)
  have hii : i = i' := by omega
  subst hii
  have := hi i q q' h1 h2 h2' (by omega)
  omega
structure Der (G H : Dg) (π : Nat → Nat → Nat) : Prop where
 n : H.n = G.n
 L : H.L = G.L
 X : ∀ c q, c < G.n → q < 4 → H.X c q = G.X c (π c q)
 lt : ∀ c q, π c q < 4
 inj : ∀ c q r, q < 4 → r < 4 → π c q = π c r → q = r
theorem der_of {n : Nat} {x x' : Nat → Nat → Int} {s s' : Nat → Int} {L : Int} (π : Nat → Nat → Nat) (hx : ∀ i q, x' i q = x i (π i q)) (hπ : ∀ i q, π i q < 4) (hi : ∀ i q r, q < 4 → r < 4 → π i q = π i r → q = r) : Der (dgOf n x s L) (dgOf n x' s' L) π :=
 ⟨rfl, rfl, fun c q _ _ => by show (x' c q).toNat = (x c (π c q)).toNat; rw [hx], hπ, hi⟩
section
variable {G H : Dg} {π : Nat → Nat → Nat} (h : Der G H π) (hG : GoodG G) (hH : GoodG H)
def piP (π : Nat → Nat → Nat) (x : Nat × Nat) : Nat × Nat := (x.1, π x.1 x.2)
include h hG hH
omit hH in
theorem Der.inv {x : Nat × Nat} (hx : InV H x) : InV G (piP π x) := hG.inV (by have := hx.1; rw [h.n] at this; exact this) (h.lt _ _)
omit hG hH in
theorem Der.onto {c q : Nat} (hc : c < G.n) (hq : q < 4) : ∃ p, p < 4 ∧ π c p = q := by
 obtain ⟨p, hp, he⟩ := Go.Proofs.Ytjlkndkedknocaa.onto 4 (π c) (fun i _ => h.lt c i) (fun i j hij hj e => by have := h.inj c i j (by omega) hj e; omega) q hq
 exact ⟨p, hp, he⟩
theorem Der.oth {x : Nat × Nat} (hx : InV H x) : piP π (oth H x) = oth G (piP π x) := by
 obtain ⟨o1, o2, o3⟩ := oth_spec hH hx
 refine (oth_is hG (h.inv hG hx) (h.inv hG o1) (fun e => oth_ne hH hx ?_) ?_).symm
 ·have e1 := congrArg Prod.fst e
  have e2 := congrArg Prod.snd e
  simp only [piP] at e1 e2
  rw [← e1] at e2
  exact Prod.ext e1.symm (h.inj _ _ _ o1.2.1 hx.2.1 e2.symm)
 ·show G.X x.1 (π x.1 x.2) = G.X (Go.Proofs.Ytjlkndkedknocaa.oth H x).1 (π (Go.Proofs.Ytjlkndkedknocaa.oth H x).1 (Go.Proofs.Ytjlkndkedknocaa.oth H x).2)
  have hn := h.n
  have hx1 := hx.1
  have ho1 := o1.1
  rw [← h.X _ _ (by omega) hx.2.1, ← h.X _ _ (by omega) o1.2.1, o3]
theorem Der.conn1 {a b : Nat} (ha : a < G.n) (k : Conn H a b) : Conn G a b := by
 induction k with
 | refl => exact .refl _
 | @step b q hb hq ih =>
  have hv := hH.inV (x := (b, q)) (hb.lt hH (by rw [h.n]; exact ha)) hq
  have e := h.oth hG hH hv
  have := ih.step (π b q) (h.lt _ _)
  have e1 := congrArg Prod.fst e
  simp only [piP] at e1
  rw [e1]
  exact this
theorem Der.conn2 {a b : Nat} (ha : a < G.n) (k : Conn G a b) : Conn H a b := by
 induction k with
 | refl => exact .refl _
 | @step b q hb hq ih =>
  have hbl := hb.lt hG ha
  obtain ⟨p, hp, he⟩ := h.onto hbl hq
  have hv := hH.inV (x := (b, p)) (by rw [h.n]; exact hbl) hp
  have e := h.oth hG hH hv
  have := ih.step p hp
  have e1 := congrArg Prod.fst e
  simp only [piP] at e1
  rw [he] at e1
  rw [← e1]
  exact this
theorem Der.conn {a b : Nat} (ha : a < G.n) : Conn H a b ↔ Conn G a b := ⟨h.conn1 hG hH ha, h.conn2 hG hH ha⟩
theorem Der.plan_turn (b : Nat → Nat) (hb : ∀ c q, π c q = (q + b c) % 4) (hP : PlanG G) : PlanG H := fun c hc => by
 have hm : PlMap H G (fun c => c) (piP π) := by
  refine ⟨fun x hx => ⟨h.inv hG hx, rfl⟩, fun x hx => h.oth hG hH hx, fun x hx => ?_, fun x y hx hy e => ?_, fun a b _ _ e => e, fun c q hc hq => ?_⟩
  ·unfold piP rot3
   simp only [hb]
   exact Prod.ext rfl (by simp only; omega)
  ·have e1 := congrArg Prod.fst e
   have e2 := congrArg Prod.snd e
   simp only [piP] at e1 e2
   rw [← e1] at e2
   exact Prod.ext e1 (h.inj _ _ _ hx.2.1 hy.2.1 e2)
  ·rw [h.n] at hc
   obtain ⟨p, hp, he⟩ := h.onto hc hq
   exact ⟨p, hp, by unfold piP; simp only [he]⟩
 exact (hm.at_ hH hG hc).2 (hP c (by rw [← h.n]; exact hc))
end
theorem refl_le {G H : Dg} (h : Der G H (fun _ q => (4 - q) % 4)) (hG : GoodG G) (hH : GoodG H) {c : Nat} (hc : c < G.n) : cntP (fun t => Conn H c (rhead H t)) (regs H).length ≤ cntP (fun t => Conn G c (rhead G t)) (regs G).length := by
 obtain ⟨ρ, hρ⟩ : ∃ ρ, ρ = piP fun _ q => (4 - q) % 4 := ⟨_, rfl⟩
 have hinv : ∀ x, InV H x → InV G (ρ x) := fun x hx => by rw [hρ]; exact h.inv hG hx
 have hinj : ∀ x y, InV H x → InV H y → ρ x = ρ y → x = y := fun x y hx hy e => by
  rw [hρ] at e
  have e1 := congrArg Prod.fst e
  have e2 := congrArg Prod.snd e
  simp only [piP] at e1 e2
  have := hx.2.1
  have := hy.2.1
  exact Prod.ext e1 (by omega)
 have hstep : ∀ x, InV H x → nxt G (oth G (ρ (nxt H x))) = oth G (ρ x) := fun x hx => by
  have o1 := (oth_spec hH hx).1
  have ho := h.oth hG hH hx
  rw [← hρ] at ho
  have hnx := nxt_inV hH hx
  rw [nxt_rot G, (oth_spec hG (hinv _ hnx)).2.1, ← ho, hρ, nxt_rot H]
  unfold piP rot3
  have := o1.2.1
  exact Prod.ext rfl (by simp only; omega)
 have horb : ∀ t x, InV H x → orb G (oth G (ρ (orb H x t))) t = oth G (ρ x) := by
  intro t
  induction t with
  | zero => intro x _; rfl
  | succ t ih =>
   intro x hx
   have hv := orb_inV hH hx t
   have e : orb G (oth G (ρ (orb H x (t + 1)))) (t + 1) = orb G (nxt G (oth G (ρ (nxt H (orb H x t))))) t := by
    have e0 := orb_add (G := G) (oth G (ρ (orb H x (t + 1)))) 1 t
    rw [Nat.add_comm 1 t] at e0
    exact e0
   rw [e, hstep _ hv, ih x hx]
 have hψ : ∀ x, InV H x → InV G (oth G (ρ x)) := fun x hx => (oth_spec hG (hinv x hx)).1
 refine regs_le hH hG (fun x => oth G (ρ x)) (by rw [h.n]; exact hc) hc (fun x hx k => ⟨hψ x hx, ?_⟩) fun x y hx hy _ _ hs => ?_
 ·have k' := h.conn1 hG hH hc k
  have := k'.step (ρ x).2 (hinv x hx).2.1
  have e : (x.1, (ρ x).2) = ρ x := by rw [hρ]; rfl
  rwa [e] at this
 ·obtain ⟨t, ht⟩ := hs
  have h2 := horb t y hy
  have ht : orb G (oth G (ρ x)) t = oth G (ρ y) := ht
  rw [← ht] at h2
  have h3 := orb_inj hG (hψ _ (orb_inV hH hy t)) (hψ x hx) t h2
  have h4 := congrArg (oth G) h3
  rw [(oth_spec hG (hinv _ (orb_inV hH hy t))).2.1, (oth_spec hG (hinv x hx)).2.1] at h4
  exact SameR.symm hH hy ⟨t, hinj _ _ (orb_inV hH hy t) hx h4⟩
theorem Der.plan_refl {G H : Dg} (h : Der G H (fun _ q => (4 - q) % 4)) (hG : GoodG G) (hH : GoodG H) (hP : PlanG G) : PlanG H := fun c hc => by
 have hc' : c < G.n := by rw [← h.n]; exact hc
 have hb : Der H G (fun _ q => (4 - q) % 4) := ⟨h.n.symm, h.L.symm, fun c q hc hq => by
  rw [h.X c _ (by rw [← h.n]; exact hc) (Nat.mod_lt _ (by omega))]
  congr 1
  omega, fun _ _ => Nat.mod_lt _ (by omega), fun _ q r hq hr e => by omega⟩
 have l1 := refl_le h hG hH hc'
 have l2 := refl_le hb hH hG hc
 have e : cntP (fun i => Conn H c i) H.n = cntP (fun i => Conn G c i) G.n := by
  rw [h.n]
  exact cntP_congr fun i _ => h.conn hG hH hc'
 have := hP c hc'
 omega
end Go.Proofs.Ytjlkndkedknocaa
namespace Go.Proofs.Ytjlkndkedknocaa
open Go Go.Ai
attribute [local instance] Classical.propDecidable
theorem endNx {G : Dg} (hG : GoodG G) {c p : Nat} (he : (c, p) = eP G (G.X c p)) : nx G (G.X c p) = G.X c ((p + 2) % 4) := by
 have h1 : c = G.T (G.X c p) 2 := congrArg Prod.fst he
 have h2 : p = G.T (G.X c p) 3 := congrArg Prod.snd he
 unfold nx
 rw [← h1, ← h2]
theorem oppC {G : Dg} (hG : GoodG G) {c q : Nat} (hc : c < G.n) (hq : q < 4) : SameC G (G.X c q) (G.X c ((q + 2) % 4)) := by
 have hv := hG.inV (x := (c, q)) hc hq
 have hv2 := hG.inV (x := (c, (q + 2) % 4)) hc (Nat.mod_lt _ (by omega))
 rcases at_be hG hv with e | e
 ·rcases at_be hG hv2 with e2 | e2
  ·have d1 := (hG.dir _ hv.2.2).1
   have d2 := (hG.dir _ hv2.2.2).1
   have f1 : c = G.T (G.X c q) 0 := congrArg Prod.fst e
   have f2 : q = G.T (G.X c q) 1 := congrArg Prod.snd e
   have g1 : c = G.T (G.X c ((q + 2) % 4)) 0 := congrArg Prod.fst e2
   have g2 : (q + 2) % 4 = G.T (G.X c ((q + 2) % 4)) 1 := congrArg Prod.snd e2
   simp only at d1 d2
   rw [← f1, ← f2] at d1
   rw [← g1, ← g2] at d2
   have := outB_flip (hG.sign c hc) hq
   rw [d1, d2] at this
   cases this
  ·have := endNx hG e2
   rw [show ((q + 2) % 4 + 2) % 4 = q by omega] at this
   exact (nx_perm hG).symm hv2.2.2 ⟨1, this⟩
 ·exact ⟨1, endNx hG e⟩
theorem Der.same {G H : Dg} {π : Nat → Nat → Nat} (h : Der G H π) (hG : GoodG G) (hH : GoodG H) (hop : ∀ c q, q < 4 → π c ((q + 2) % 4) = (π c q + 2) % 4) {a b : Nat} (ha : a < 2 * G.n) (k : SameC G a b) : SameC H a b := by
 obtain ⟨t, rfl⟩ := k
 induction t with
 | zero => exact ⟨0, rfl⟩
 | succ t ih =>
  refine ih.trans ?_
  obtain ⟨b, hb⟩ : ∃ b, b = itr (nx G) a t := ⟨_, rfl⟩
  have hbl : b < 2 * G.n := by rw [hb]; exact (nx_perm hG).itr_lt ha t
  show SameO (nx H) (itr (nx G) a t) (nx G (itr (nx G) a t))
  rw [← hb]
  obtain ⟨hv, hx⟩ := eP_in hG hbl
  obtain ⟨c, p, he⟩ : ∃ c p, eP G b = (c, p) := ⟨_, _, rfl⟩
  rw [he] at hv hx
  simp only at hx
  have hnx := endNx hG (c := c) (p := p) (by rw [hx]; exact he.symm)
  rw [hx] at hnx
  obtain ⟨q, hq, hpq⟩ := h.onto hv.1 hv.2.1
  have ho := oppC hH (c := c) (q := q) (by rw [h.n]; exact hv.1) hq
  rw [h.X c q hv.1 hq, h.X c _ hv.1 (Nat.mod_lt _ (by omega)), hop c q hq, hpq, hx, ← hnx] at ho
  exact ho
theorem Der.mix {G H : Dg} {π : Nat → Nat → Nat} (h : Der G H π) (hG : GoodG G) (hH : GoodG H) (hP : PlanG G) (hPH : PlanG H) (hop : ∀ c q, q < 4 → π c ((q + 2) % 4) = (π c q + 2) % 4) (hpar : ∃ r, ∀ c q, q < 4 → π c q % 2 = (q + r) % 2) (hM : MixG G) : MixG H := by
 obtain ⟨m1, m2, m3, m4⟩ := hM
 have hn : 0 < G.n := by omega
 have hc := (mix_conn hG hP hn).1 m3
 refine ⟨by rw [h.n]; exact m1, by rw [h.L]; exact m2, (mix_conn hH hPH (by rw [h.n]; exact hn)).2 fun c hc' => (h.conn hG hH hn).2 (hc c (by rw [← h.n]; exact hc')), fun a ha => ?_⟩
 rw [h.n] at ha
 obtain ⟨⟨c0, d0, e0⟩, c1, d1, e1⟩ := m4 a ha
 have key : ∀ r, r = 0 ∨ r = 1 → ∃ c, c < G.n ∧ ∀ p, p < 4 → p % 2 = r → SameC H (G.X c p) a := fun r hr => by
  rcases hr with rfl | rfl
  ·refine ⟨c0, d0, fun p hp hpar => ?_⟩
   rcases (show p = 0 ∨ p = 2 by omega) with rfl | rfl
   ·exact h.same hG hH hop (hG.X _ _ d0 (by omega)) e0
   ·exact h.same hG hH hop (hG.X _ _ d0 (by omega)) ((oppC hG (c := c0) (q := 2) d0 (by omega)).trans e0)
  ·refine ⟨c1, d1, fun p hp hpar => ?_⟩
   rcases (show p = 1 ∨ p = 3 by omega) with rfl | rfl
   ·exact h.same hG hH hop (hG.X _ _ d1 (by omega)) e1
   ·exact h.same hG hH hop (hG.X _ _ d1 (by omega)) ((oppC hG (c := c1) (q := 3) d1 (by omega)).trans e1)
 obtain ⟨r, hr⟩ := hpar
 have fin : ∀ q, q < 4 → ∃ c, c < H.n ∧ SameC H (H.X c q) a := fun q hq => by
  obtain ⟨c, hc', hk⟩ := key ((q + r) % 2) (by omega)
  exact ⟨c, by rw [h.n]; exact hc', by rw [h.X c q hc' hq]; exact hk _ (h.lt c q) (hr c q hq)⟩
 exact ⟨fin 0 (by omega), fin 1 (by omega)⟩
theorem mir_par (t : Int) : mirB t = 1 ∨ mirB t = 3 := by unfold mirB; split <;> simp
theorem ask_der {n : Nat} {x x' : Nat → Nat → Int} {s s' : Nat → Int} {L : Int} (hA : askD n x s L = 0) (π : Nat → Nat → Nat) (hx : ∀ i q, x' i q = x i (π i q)) (hS : Snd n x' s' L) (hlt : ∀ i q, π i q < 4) (hi : ∀ i q r, q < 4 → r < 4 → π i q = π i r → q = r) (hop : ∀ c q, q < 4 → π c ((q + 2) % 4) = (π c q + 2) % 4) (hpar : ∃ r, ∀ c q, q < 4 → π c q % 2 = (q + r) % 2) (hpl : Der (dgOf n x s L) (dgOf n x' s' L) π → PlanG (dgOf n x s L) → PlanG (dgOf n x' s' L)) : askD n x' s' L = 0 := by
 obtain ⟨h1, h2⟩ := ask_zero hA
 obtain ⟨h3, h4⟩ := kind_zero h1
 have hD : Der (dgOf n x s L) (dgOf n x' s' L) π := der_of π hx hlt hi
 have hP' := hpl hD h4
 have hM := hD.mix (good_of h3) (good_of hS) h4 hP' hop hpar h2
 unfold askD kindD
 rw [if_pos hS, if_pos hP', if_neg (by simp), if_pos hM]
theorem snd_mir {n : Nat} {x : Nat → Nat → Int} {s : Nat → Int} {L : Int} (h : Snd n x s L) : Snd n (mirX x s) (negS s) L := by
 refine snd_der h (fun i q => (q + mirB (s i)) % 4) false (fun i q => rfl) (fun i hi => ?_) (fun i q => Nat.mod_lt _ (by omega)) (fun i q r _ hq hr e => by omega) fun i q hi hq => ?_
 ·rcases h.sign i hi with e | e <;> simp [negS, e]
 ·unfold negS mirB
  rcases h.sign i hi with e | e <;> rw [e] <;> (match q, hq with | 0, _ => rfl | 1, _ => rfl | 2, _ => rfl | 3, _ => rfl)
theorem snd_ref {n : Nat} {x : Nat → Nat → Int} {s : Nat → Int} {L : Int} (h : Snd n x s L) : Snd n (refX x) (negS s) L := by
 refine snd_der h (fun i q => (4 - q) % 4) false (fun i q => rfl) (fun i hi => ?_) (fun i q => Nat.mod_lt _ (by omega)) (fun i q r _ hq hr e => by omega) fun i q hi hq => ?_
 ·rcases h.sign i hi with e | e <;> simp [negS, e]
 ·unfold negS
  rcases h.sign i hi with e | e <;> rw [e] <;> (match q, hq with | 0, _ => rfl | 1, _ => rfl | 2, _ => rfl | 3, _ => rfl)
theorem snd_rev {n : Nat} {x : Nat → Nat → Int} {s : Nat → Int} {L : Int} (h : Snd n x s L) : Snd n (revX x) s L := by
 refine snd_der h (fun i q => (q + 2) % 4) true (fun i q => rfl) h.sign (fun i q => Nat.mod_lt _ (by omega)) (fun i q r _ hq hr e => by omega) fun i q hi hq => ?_
 rcases h.sign i hi with e | e <;> rw [e] <;> (match q, hq with | 0, _ => rfl | 1, _ => rfl | 2, _ => rfl | 3, _ => rfl)
theorem ask_mir {n : Nat} {x : Nat → Nat → Int} {s : Nat → Int} {L : Int} (h : askD n x s L = 0) : askD n (mirX x s) (negS s) L = 0 := by
 have hS := (kind_zero (ask_zero h).1).1
 have hS' := snd_mir hS
 refine ask_der h (fun i q => (q + mirB (s i)) % 4) (fun i q => rfl) hS' (fun i q => Nat.mod_lt _ (by omega)) (fun i q r hq hr e => by omega) (fun c q hq => by omega) ⟨1, fun c q hq => ?_⟩ fun hD hP => hD.plan_turn (good_of hS) (good_of hS') (fun c => mirB (s c)) (fun c q => rfl) hP
 have := mir_par (s c)
 omega
theorem ask_ref {n : Nat} {x : Nat → Nat → Int} {s : Nat → Int} {L : Int} (h : askD n x s L = 0) : askD n (refX x) (negS s) L = 0 := by
 have hS := (kind_zero (ask_zero h).1).1
 have hS' := snd_ref hS
 exact ask_der h (fun i q => (4 - q) % 4) (fun i q => rfl) hS' (fun i q => Nat.mod_lt _ (by omega)) (fun i q r hq hr e => by omega) (fun c q hq => by omega) ⟨0, fun c q hq => by omega⟩ fun hD hP => hD.plan_refl (good_of hS) (good_of hS') hP
theorem ask_rev {n : Nat} {x : Nat → Nat → Int} {s : Nat → Int} {L : Int} (h : askD n x s L = 0) : askD n (revX x) s L = 0 := by
 have hS := (kind_zero (ask_zero h).1).1
 have hS' := snd_rev hS
 exact ask_der h (fun i q => (q + 2) % 4) (fun i q => rfl) hS' (fun i q => Nat.mod_lt _ (by omega)) (fun i q r hq hr e => by omega) (fun c q hq => by omega) ⟨0, fun c q hq => by omega⟩ fun hD hP => hD.plan_turn (good_of hS) (good_of hS') (fun _ => 2) (fun c q => rfl) hP
end Go.Proofs.Ytjlkndkedknocaa
namespace Go.Proofs.Ytjlkndkedknocaa
open Go Go.Ai
attribute [local instance] Classical.propDecidable
def tauT (b : Nat → Nat) (t : Nat) : Nat := 4 * (t / 4) + (t % 4 + b (t / 4)) % 4
def tauR (t : Nat) : Nat := 4 * (t / 4) + (3 - t % 4)
def beT (r f : Nat) : Nat := 2 * (f / 2) + (f + r) % 2
theorem not_dec {p q : Prop} [Decidable p] [Decidable q] (h : p ↔ q) : (!decide p) = !decide q := by
 by_cases hp : p
 ·rw [decide_eq_true hp, decide_eq_true (h.1 hp)]
 ·rw [decide_eq_false hp, decide_eq_false fun hq => hp (h.2 hq)]
theorem outE_turn {G H : Dg} {π : Nat → Nat → Nat} (h : Der G H π) (hG : GoodG G) (hH : GoodG H) {b : Nat → Nat} {r : Nat} (hb : ∀ c q, π c q = (q + b c) % 4) (hr : ∀ c, b c % 2 = r) {t f : Nat} (ht : t < 4 * G.n) (hf : f < 4) :
  outE G (tauT b t) (beT r f) = (tauT b (outE H t f).1, (outE H t f).2) := by
 obtain ⟨c, hc⟩ : ∃ c, c = t / 4 := ⟨_, rfl⟩
 obtain ⟨p, hp⟩ : ∃ p, p = t % 4 := ⟨_, rfl⟩
 obtain ⟨k, hk⟩ : ∃ k, k = b c := ⟨_, rfl⟩
 have hkr : k % 2 = r := by rw [hk]; exact hr c
 have hcn : c < G.n := by omega
 have hp4 : p < 4 := by omega
 have d1 : tauT b t / 4 = c := by unfold tauT; rw [← hc]; omega
 have d2 : tauT b t % 4 = (p + k) % 4 := by unfold tauT; rw [← hc, ← hp, ← hk]; omega
 unfold outE
 rw [d1, d2, ← hc, ← hp]
 by_cases h2 : 2 ≤ f
 ·rw [if_pos (by unfold beT; omega), if_pos h2]
  have hsh : ∀ m, m < 4 → tauT b (4 * c + m) = 4 * c + (m + k) % 4 := fun m hm => by
   unfold tauT
   rw [show (4 * c + m) / 4 = c by omega, show (4 * c + m) % 4 = m by omega, ← hk]
  by_cases e : f = 3 - (p + 1) % 4 % 2
  ·rw [if_pos e, if_pos (by unfold beT; omega)]
   simp only
   rw [hsh _ (by omega)]
   exact Prod.ext (by simp only; omega) rfl
  ·rw [if_neg e, if_neg (by unfold beT; omega)]
   simp only
   rw [hsh _ (by omega)]
   exact Prod.ext (by simp only; omega) rfl
 ·rw [if_neg (by unfold beT; omega), if_neg h2]
  have ho : ∀ q, q < 4 → oth G (c, (q + k) % 4) = ((oth H (c, q)).1, ((oth H (c, q)).2 + b (oth H (c, q)).1) % 4) ∧ (oth H (c, q)).2 < 4 := fun q hq => by
   have hv := hH.inV (x := (c, q)) (by rw [h.n]; exact hcn) hq
   have := h.oth hG hH hv
   unfold piP at this
   simp only [hb] at this
   rw [hk, ← this]
   exact ⟨rfl, (oth_spec hH hv).1.2.1⟩
  have hsh : ∀ (o : Nat × Nat) m, m < 4 → tauT b (4 * o.1 + m) = 4 * o.1 + (m + b o.1) % 4 := fun o m hm => by
   unfold tauT
   rw [show (4 * o.1 + m) / 4 = o.1 by omega, show (4 * o.1 + m) % 4 = m by omega]
  by_cases e : f = p % 2
  ·rw [if_pos e, if_pos (by unfold beT; omega)]
   obtain ⟨o1, o2⟩ := ho p hp4
   obtain ⟨o, hoe⟩ : ∃ o, o = oth H (c, p) := ⟨_, rfl⟩
   rw [← hoe] at o1 o2 ⊢
   rw [o1]
   simp only
   rw [hsh o _ (by omega)]
   have := hr o.1
   refine Prod.ext (by simp only; omega) ?_
   exact not_dec (by unfold beT; omega)
  ·rw [if_neg e, if_neg (by unfold beT; omega)]
   obtain ⟨o1, o2⟩ := ho ((p + 1) % 4) (by omega)
   rw [show ((p + 1) % 4 + k) % 4 = ((p + k) % 4 + 1) % 4 by omega] at o1
   obtain ⟨o, hoe⟩ : ∃ o, o = oth H (c, (p + 1) % 4) := ⟨_, rfl⟩
   rw [← hoe] at o1 o2 ⊢
   rw [o1]
   simp only
   rw [hsh o _ (by omega)]
   have := hr o.1
   refine Prod.ext rfl ?_
   exact not_dec (by unfold beT; omega)
theorem outE_refl {G H : Dg} (h : Der G H (fun _ q => (4 - q) % 4)) (hG : GoodG G) (hH : GoodG H) {t f : Nat} (ht : t < 4 * G.n) (hf : f < 4) :
  outE G (tauR t) (beT 0 f) = (tauR (outE H t f).1, (outE H t f).2) := by
 obtain ⟨c, hc⟩ : ∃ c, c = t / 4 := ⟨_, rfl⟩
 obtain ⟨p, hp⟩ : ∃ p, p = t % 4 := ⟨_, rfl⟩
 have hcn : c < G.n := by omega
 have hp4 : p < 4 := by omega
 have d1 : tauR t / 4 = c := by unfold tauR; omega
 have d2 : tauR t % 4 = 3 - p := by unfold tauR; omega
 have db : beT 0 f = f := by unfold beT; omega
 unfold outE
 rw [d1, d2, ← hc, ← hp, db]
 have hsh : ∀ (c m : Nat), m < 4 → tauR (4 * c + m) = 4 * c + (3 - m) := fun c m hm => by unfold tauR; omega
 by_cases h2 : 2 ≤ f
 ·rw [if_pos h2, if_pos h2]
  by_cases e : f = 3 - (p + 1) % 4 % 2
  ·rw [if_pos e, if_neg (by omega)]
   simp only
   rw [hsh _ _ (by omega)]
   exact Prod.ext (by simp only; omega) rfl
  ·rw [if_neg e, if_pos (by omega)]
   simp only
   rw [hsh _ _ (by omega)]
   exact Prod.ext (by simp only; omega) rfl
 ·rw [if_neg h2, if_neg h2]
  have ho : ∀ q, q < 4 → oth G (c, (4 - q) % 4) = ((oth H (c, q)).1, (4 - (oth H (c, q)).2) % 4) ∧ (oth H (c, q)).2 < 4 := fun q hq => by
   have hv := hH.inV (x := (c, q)) (by rw [h.n]; exact hcn) hq
   exact ⟨(h.oth hG hH hv).symm, (oth_spec hH hv).1.2.1⟩
  by_cases e : f = p % 2
  ·rw [if_pos e, if_neg (by omega)]
   obtain ⟨o1, o2⟩ := ho p hp4
   obtain ⟨o, hoe⟩ : ∃ o, o = oth H (c, p) := ⟨_, rfl⟩
   rw [show (3 - p + 1) % 4 = (4 - p) % 4 by omega, o1, ← hoe]
   rw [← hoe] at o2
   simp only
   rw [hsh _ _ (by omega)]
   refine Prod.ext (by simp only; omega) ?_
   exact not_dec (by omega)
  ·rw [if_neg e, if_pos (by omega)]
   obtain ⟨o1, o2⟩ := ho ((p + 1) % 4) (by omega)
   obtain ⟨o, hoe⟩ : ∃ o, o = oth H (c, (p + 1) % 4) := ⟨_, rfl⟩
   rw [show 3 - p = (4 - (p + 1) % 4) % 4 by omega, o1, ← hoe]
   rw [← hoe] at o2
   simp only
   rw [hsh _ _ (by omega)]
   refine Prod.ext (by simp only; omega) ?_
   exact not_dec (by omega)
theorem tauT_lt {b : Nat → Nat} {t n : Nat} (ht : t < 4 * n) : tauT b t < 4 * n := by unfold tauT; omega
theorem tauR_lt {t n : Nat} (ht : t < 4 * n) : tauR t < 4 * n := by unfold tauR; omega
theorem tauT_inj {b : Nat → Nat} {t u : Nat} (h : tauT b t = tauT b u) : t = u := by
 unfold tauT at h
 have e : t / 4 = u / 4 := by omega
 rw [e] at h
 omega
theorem tauR_inj {t u : Nat} (h : tauR t = tauR u) : t = u := by unfold tauR at h; omega
theorem beT_pm {r : Nat} (hr : r = 0 ∨ r = 1) (sw : Bool) {i : Nat} (hi : i < 4) : pm sw (beT r i) = beT r (pm sw i) := by
 rcases hr with rfl | rfl <;> (match i, hi with | 0, _ => cases sw <;> rfl | 1, _ => cases sw <;> rfl | 2, _ => cases sw <;> rfl | 3, _ => cases sw <;> rfl)
theorem outE_self {G : Dg} (hG : GoodG G) {t f : Nat} (ht : t < 4 * G.n) (hf : f < 4) : ¬ ((outE G t f).1 = t ∧ pm (outE G t f).2 f = f) := by
 rintro ⟨h1, h2⟩
 revert h1 h2
 by_cases k : 2 ≤ f
 ·unfold outE
  rw [if_pos k]
  split <;> (simp only; omega)
 ·have hq : (t % 4 + 1) % 4 < 4 := by omega
  have par : ∀ q, q % 2 ≠ f → f < 2 → pm (!decide (f = q % 2)) f ≠ f := fun q hne hf2 => by
   rw [decide_eq_false (by omega)]
   unfold pm
   rcases (show f = 0 ∨ f = 1 by omega) with rfl | rfl <;> simp
  unfold outE
  rw [if_neg k]
  split
  ·rename_i e
   simp only
   intro h1 h2
   obtain ⟨o, ho⟩ : ∃ o, o = oth G (t / 4, t % 4) := ⟨_, rfl⟩
   rw [← ho] at h1 h2
   have hv := (oth_spec hG (hG.inV (x := (t / 4, t % 4)) (by simp only; omega) (by simp only; omega))).1
   rw [← ho] at hv
   have := hv.2.1
   by_cases c : o.2 % 2 = f
   ·omega
   ·exact par _ c (by omega) h2
  ·rename_i e
   simp only
   intro h1 h2
   obtain ⟨o, ho⟩ : ∃ o, o = oth G (t / 4, (t % 4 + 1) % 4) := ⟨_, rfl⟩
   rw [← ho] at h1 h2
   have hv := (oth_spec hG (hG.inV (x := (t / 4, (t % 4 + 1) % 4)) (by simp only; omega) (by simp only; omega))).1
   rw [← ho] at hv
   have := hv.2.1
   by_cases c : o.2 % 2 = f
   ·omega
   ·exact par _ c (by omega) h2
end Go.Proofs.Ytjlkndkedknocaa
namespace Go.Proofs.Ytjlkndkedknocaa
open Go Go.Ai
attribute [local instance] Classical.propDecidable
def nbE (e : Nat → Nat → Nat × Bool) (t f : Nat) : Option Nat := some (e t f).1
structure GlU (N : Nat) (e : Nat → Nat → Nat × Bool) : Prop where
 lt : ∀ t f, t < N → f < 4 → (e t f).1 < N
 sym : ∀ t f, t < N → f < 4 → e (e t f).1 (pm (e t f).2 f) = (t, (e t f).2)
 self : ∀ t f, t < N → f < 4 → ¬ ((e t f).1 = t ∧ pm (e t f).2 f = f)
 conn : ∀ t, t < N → VC (nbE e) 0 t
theorem in_cross (G : Dg) (c p : Nat) (hp : p < 4) (k : Nat) : VC (nbE (outE G)) (4 * c + p) (4 * c + (p + k) % 4) := by
 induction k with
 | zero =>
  rw [Nat.add_zero, Nat.mod_eq_of_lt hp]
  exact .refl _
 | succ k ih =>
  refine ih.step (3 - ((p + k) % 4 + 1) % 4 % 2) (by omega) ?_
  unfold nbE outE
  rw [show (4 * c + (p + k) % 4) % 4 = (p + k) % 4 by omega, show (4 * c + (p + k) % 4) / 4 = c by omega, if_pos (by omega), if_pos rfl]
  simp only
  congr 1
  omega
theorem out_conn {G : Dg} (hG : GoodG G) {c : Nat} (h0 : 0 < G.n) (hc : Conn G 0 c) : VC (nbE (outE G)) 0 (4 * c) := by
 induction hc with
 | refl => exact .refl _
 | @step b q hb hq ih =>
  have h1 := in_cross G b 0 (by omega) q
  rw [Nat.zero_add, Nat.mod_eq_of_lt hq] at h1
  have h2 := outE_own G (e := (b, q)) hq rfl
  have h3 : VC (nbE (outE G)) (4 * b + q) (4 * (oth G (b, q)).1 + ((oth G (b, q)).2 + 3) % 4) := (VC.refl _).step (q % 2) (by omega) (by unfold nbE; rw [h2])
  have h4 := in_cross G (oth G (b, q)).1 (((oth G (b, q)).2 + 3) % 4) (by omega) (4 - ((oth G (b, q)).2 + 3) % 4)
  rw [show (((oth G (b, q)).2 + 3) % 4 + (4 - ((oth G (b, q)).2 + 3) % 4)) % 4 = 0 by omega] at h4
  exact ((ih.trans h1).trans h3).trans h4
theorem out_glu {G : Dg} (hG : GoodG G) (hP : PlanG G) (hM : MixG G) : GlU (4 * G.n) (outE G) := by
 have hn : 0 < G.n := by have := hM.1; omega
 refine ⟨fun t f ht hf => (outE_sym hG ht hf).1, fun t f ht hf => (outE_sym hG ht hf).2, fun t f ht hf => outE_self hG ht hf, fun t ht => ?_⟩
 have h1 := out_conn hG hn ((mix_conn hG hP hn).1 hM.2.2.1 (t / 4) (by omega))
 have h2 := in_cross G (t / 4) 0 (by omega) (t % 4)
 rw [show 4 * (t / 4) + (0 + t % 4) % 4 = t by omega] at h2
 exact h1.trans h2
theorem glu_of {n : Nat} {x : Nat → Nat → Int} {s : Nat → Int} {L : Int} (h : askD n x s L = 0) : GlU (4 * n) (outE (dgOf n x s L)) := by
 obtain ⟨h1, h2⟩ := ask_zero h
 obtain ⟨h3, h4⟩ := kind_zero h1
 exact out_glu (good_of h3) h4 h2
end Go.Proofs.Ytjlkndkedknocaa
namespace Go.Proofs.Ytjlkndkedknocaa
open Go Go.Ai
attribute [local instance] Classical.propDecidable
def cval (G : Dg) (xs : List Int) (c v : Nat) : Int := match v with
 | 0 => nth xs (G.X c 1)
 | 1 => nth xs (G.X c 0)
 | i => 1 - i
end Go.Proofs.Ytjlkndkedknocaa
namespace Go.Ai
attribute [local instance] Classical.propDecidable
structure NumI (cls ys : List Int) (N i cnt : Nat) : Prop where
 len : ys.length = N
 val : ∀ a, a < i → 0 ≤ nth ys a ∧ nth ys a < cnt
 rel : ∀ a b, a < i → b < i → (nth ys a = nth ys b ↔ nth cls a = nth cls b)
 ord : ∀ j : Nat, j < cnt → ∃ a, a < i ∧ nth ys a = j ∧ ∀ b, b < a → nth ys b < j
def NumJ (cls ys ys' : List Int) (i j : Nat) : Prop := ys'.length = ys.length ∧ (∀ a, a ≠ i → nth ys' a = nth ys a) ∧ ((nth ys' i = -1 ∧ ∀ j', j' < j → nth cls j' ≠ nth cls i) ∨ ∃ j0, j0 < i ∧ nth ys' i = nth ys j0 ∧ nth cls j0 = nth cls i)
theorem NumI.old {cls ys ys' : List Int} {N i cnt j0 : Nat} (h : NumI cls ys N i cnt) (hl : ys'.length = ys.length) (he : ∀ a, a ≠ i → nth ys' a = nth ys a) (hj : j0 < i) (h1 : nth ys' i = nth ys j0) (h2 : nth cls j0 = nth cls i) : NumI cls ys' N (i + 1) cnt := by
 have hv : ∀ a, a < i → nth ys' a = nth ys a := fun a ha => he a (by omega)
 refine ⟨by rw [hl, h.len], fun a ha => ?_, fun a b ha hb => ?_, fun j hj' => ?_⟩
 ·by_cases e : a = i
  ·rw [e, h1]; exact h.val _ hj
  ·rw [hv a (by omega)]; exact h.val a (by omega)
 ·by_cases ea : a = i
  ·by_cases eb : b = i
   ·rw [ea, eb]; simp
   ·rw [ea, h1, hv b (by omega), h.rel _ _ hj (by omega), h2]
  ·by_cases eb : b = i
   ·rw [eb, h1, hv a (by omega), h.rel _ _ (by omega) hj, h2]
   ·rw [hv a (by omega), hv b (by omega)]; exact h.rel a b (by omega) (by omega)
 ·obtain ⟨a, a1, a2, a3⟩ := h.ord j hj'
  exact ⟨a, by omega, by rw [hv a a1]; exact a2, fun b hb => by rw [hv b (by omega)]; exact a3 b hb⟩
theorem NumI.new {cls ys ys' : List Int} {N i cnt : Nat} (h : NumI cls ys N i cnt) (hl : ys'.length = ys.length) (he : ∀ a, a ≠ i → nth ys' a = nth ys a) (h1 : nth ys' i = cnt) (h2 : ∀ j', j' < i → nth cls j' ≠ nth cls i) : NumI cls ys' N (i + 1) (cnt + 1) := by
 have hv : ∀ a, a < i → nth ys' a = nth ys a := fun a ha => he a (by omega)
 refine ⟨by rw [hl, h.len], fun a ha => ?_, fun a b ha hb => ?_, fun j hj' => ?_⟩
 ·by_cases e : a = i
  ·rw [e, h1]; omega
  ·rw [hv a (by omega)]; have := h.val a (by omega); omega
 ·by_cases ea : a = i
  ·by_cases eb : b = i
   ·rw [ea, eb]; simp
   ·rw [ea, h1, hv b (by omega)]
    have := h.val b (by omega)
    constructor
    ·intro e; omega
    ·intro e; exact absurd e.symm (h2 b (by omega))
  ·by_cases eb : b = i
   ·rw [eb, h1, hv a (by omega)]
    have := h.val a (by omega)
    constructor
    ·intro e; omega
    ·intro e; exact absurd e (h2 a (by omega))
   ·rw [hv a (by omega), hv b (by omega)]; exact h.rel a b (by omega) (by omega)
 ·by_cases ej : j = cnt
  ·refine ⟨i, by omega, by rw [h1, ej], fun b hb => ?_⟩
   rw [hv b hb, ej]; exact (h.val b hb).2
  ·obtain ⟨a, a1, a2, a3⟩ := h.ord j (by omega)
   exact ⟨a, by omega, by rw [hv a a1]; exact a2, fun b hb => by rw [hv b (by omega)]; exact a3 b hb⟩
theorem NumI.numb {cls ys : List Int} {N cnt : Nat} (h : NumI cls ys N N cnt) : Numb N (fun a b => nth cls a = nth cls b) (fun a => (nth ys a).toNat) cnt := by
 refine ⟨fun a b ha hb => ?_, fun a ha => ?_, fun j hj => ?_⟩
 ·rw [← h.rel a b ha hb]
  have h1 := h.val a ha
  have h2 := h.val b hb
  constructor
  ·intro e; omega
  ·intro e; rw [e]
 ·have := h.val a ha; omega
 ·obtain ⟨a, a1, a2, a3⟩ := h.ord j hj
  exact ⟨a, a1, by rw [a2]; rfl, fun b hb => by have := a3 b hb; have := h.val b (by omega); omega⟩
end Go.Ai
namespace Go.Proofs.Ytjlkndkedknocaa
open Go Go.Ai
attribute [local instance] Classical.propDecidable
variable {E : Env} (hE : OE E)
include hE
end Go.Proofs.Ytjlkndkedknocaa
namespace Go.Proofs.Ytjlkndkedknocaa
open Go Go.Ai
attribute [local instance] Classical.propDecidable
theorem FacesC.face {cs : List Value} {N : Nat} {F : Nat → Nat → Option (Nat × Bool)} (h : FacesC cs N F) {t f : Nat} (ht : t < N) (hf : f < 4) : (cs.drop (t * 20 + f * 5)).take 5 = fcC (F t f) := by
 have hl := h.1
 refine List.ext_getElem? fun j => ?_
 by_cases hj : j < 5
 ·rw [List.getElem?_take_of_lt hj, List.getElem?_drop]
  exact h.2 t f ht hf j hj
 ·rw [List.getElem?_eq_none (by simp; omega), List.getElem?_eq_none (by rw [fcC_len]; omega)]
structure ClI (G : Dg) (J : Nat) (cls : List Int) : Prop where
 len : cls.length = 16 * G.n
 sound : ∀ a b, a < 16 * G.n → b < 16 * G.n → nth cls a = nth cls b → VC (nbF (outF G)) a b
 comp : ∀ t f v w, t < 4 * G.n → f < 4 → v < 4 → (t * 4 + f) * 4 + v < J → nbF (outF G) (4 * t + v) f = some w → nth cls (4 * t + v) = nth cls w
theorem ClI.skip {G : Dg} {t f v : Nat} {cls : List Int} (h : ClI G ((t * 4 + f) * 4 + v) cls) (hf : f < 4) (hv : v < 4) (hn : nbF (outF G) (4 * t + v) f = none) : ClI G ((t * 4 + f) * 4 + (v + 1)) cls := by
 refine ⟨h.len, h.sound, fun t' f' v' w h1 h2 h3 h4 h5 => ?_⟩
 by_cases e : (t' * 4 + f') * 4 + v' = (t * 4 + f) * 4 + v
 ·have e1 : t' = t := by omega
  have e2 : f' = f := by omega
  have e3 : v' = v := by omega
  rw [e1, e2, e3, hn] at h5; cases h5
 ·exact h.comp t' f' v' w h1 h2 h3 (by omega) h5
theorem ClI.fin {G : Dg} (hG : GoodG G) {cls : List Int} (h : ClI G (64 * G.n) cls) {a b : Nat} (ha : a < 16 * G.n) (hb : b < 16 * G.n) : nth cls a = nth cls b ↔ VC (nbF (outF G)) a b := by
 refine ⟨h.sound a b ha hb, fun hV => ?_⟩
 have key : ∀ c, VC (nbF (outF G)) a c → nth cls a = nth cls c := by
  intro c hc
  induction hc with
  | refl => rfl
  | @step d w f hab hf hw ih =>
   have hd := VC_lt hG ha hab
   rw [ih]
   have := h.comp (d / 4) f (d % 4) w (by omega) hf (Nat.mod_lt _ (by omega)) (by omega)
   rw [show 4 * (d / 4) + d % 4 = d by omega] at this
   exact this hw
 exact key b hV
end Go.Proofs.Ytjlkndkedknocaa
namespace Go.Proofs.Ytjlkndkedknocaa
open Go Go.Ai
attribute [local instance] Classical.propDecidable
def GluP (h : List O) (a : Option Addr) (N : Nat) (e : Nat → Nat → Nat × Bool) : Prop := 0 < N ∧ N ≤ 1000 ∧ ∃ b cs el own, a = some ⟨b, 0, none⟩ ∧ h[b]? = some (.cells cs el own) ∧ FacesC cs N (fun t f => some (e t f))
theorem GluP.sub {h h' : List O} {a : Option Addr} {N : Nat} {e : Nat → Nat → Nat × Bool} (k : GluP h a N e) (hs : Sub h h') : GluP h' a N e := by
 obtain ⟨h1, h2, b, cs, el, own, h3, h4, h5⟩ := k
 exact ⟨h1, h2, b, cs, el, own, h3, hs _ _ h4, h5⟩
def faceL (x : Nat × Bool) : List Value := [.int .i64 x.1, .int .i64 (pm x.2 0), .int .i64 (pm x.2 1), .int .i64 (pm x.2 2), .int .i64 (pm x.2 3)]
theorem faceL_eq (x : Nat × Bool) : fcC (some x) = faceL x := by
 obtain ⟨t, sw⟩ := x
 cases sw <;> rfl
theorem faceL_P (x : Nat × Bool) {v : Nat} (hv : v < 4) : (faceL x)[1 + v]? = some (.int .i64 (pm x.2 v)) := by
 match v, hv with
 | 0, _ => rfl
 | 1, _ => rfl
 | 2, _ => rfl
 | 3, _ => rfl
theorem face_at {cs : List Value} {N : Nat} {e : Nat → Nat → Nat × Bool} (h : FacesC cs N fun t f => some (e t f)) {t f : Nat} (ht : t < N) (hf : f < 4) : (cs.drop (t * 20 + f * 5)).take 5 = faceL (e t f) ∧ t * 20 + f * 5 + 5 ≤ cs.length ∧ cs[t * 20 + f * 5]? = some (.int .i64 (e t f).1) := by
 refine ⟨by rw [h.face ht hf, faceL_eq], by have := h.1; omega, ?_⟩
 have := h.2 t f ht hf 0 (by omega)
 rw [faceL_eq] at this
 exact this
theorem face_key (x : Nat × Bool) : keyCells [some .i64, some .i64, some .i64, some .i64, some .i64] true (.agg (faceL x).toArray) = some (faceL x) := rfl
theorem face_same (x : Nat × Bool) : eqCells (faceL x) (faceL x) = true := by simp [faceL, eqCells, eqCell]
variable {E : Env} (hE : OE E)
include hE
theorem checkG_ {h : List O} {a : Option Addr} {N c : Nat} {e : Nat → Nat → Nat × Bool} (hg : GluP h a N e) (hU : GlU N e) :
  DR E 27 [.agg #[.slice a N c]] ⟨h, h.length⟩ (.ret (.int .i64 0)) ⟨h, h.length⟩ := by
 refine hE.fn (body := rb27) rfl ?_
 unfold rb27
 obtain ⟨hN0, hN, bb, cs, el, own, rfl, hbb, hF⟩ := hg
 obtain ⟨hB, hhB⟩ : ∃ H, H = h ++ [O.cells [.slice (some ⟨bb, 0, none⟩) N c] 29 (some 0)] := ⟨_, rfl⟩
 have hBs : Sub h hB := by rw [hhB]; exact (Sub.refl _).app _
 have b0 : hB[h.length]? = some (O.cells [.slice (some ⟨bb, 0, none⟩) N c] 29 (some 0)) := by rw [hhB, app_at0]; rfl
 have b1 := hBs _ _ hbb
 have e1 : ¬ (1000 < (N : Int)) := by omega
 simp [List.append_assoc, rd_at0, ↓← hhB, rd_def, ↓b0, e1]
 refine DW_loop (fun kk fr st => ∃ (t : Nat) (h' : List O), t + kk = N ∧ st = ⟨h', h.length⟩ ∧ Sub hB h' ∧
  get fr 1 = .pointer (some ⟨h.length, 0, none⟩) ∧ get fr 3 = .int .i64 N ∧ get fr 4 = .int .i64 t) ?_ (k := N) ?_
 ·rintro kk fr st ⟨t, h', htk, rfl, hs, g1, g3, g4⟩
  by_cases ht : t < N
  ·have ht' : (t : Int) < N := by omega
   have hw : IntKind.i64.wrap ((t : Int) + 1) = (t : Int) + 1 := by rw [w64_id] <;> omega
   simp [g1, g3, g4, ht', ht]
   refine DW_loop (fun kk' fr st => ∃ (f : Nat) (h' : List O), f + kk' = 4 ∧ st = ⟨h', h.length⟩ ∧ Sub hB h' ∧
    get fr 1 = .pointer (some ⟨h.length, 0, none⟩) ∧ get fr 3 = .int .i64 N ∧ get fr 4 = .int .i64 t ∧ get fr 5 = .int .i64 f) ?_ (k := 4) ?_
   ·clear g1 g3 g4 hs
    clear h'
    rintro kk' fr st ⟨f, h', hfk, rfl, hs, g1, g3, g4, g5⟩
    by_cases hf : f < 4
    ·have hf' : (f : Int) < 4 := by omega
     have hwf : IntKind.i64.wrap ((f : Int) + 1) = (f : Int) + 1 := by rw [w64_id] <;> omega
     have hb0 := hs _ _ b0
     have hb1 := hs _ _ b1
     obtain ⟨x, hx⟩ : ∃ x, x = e t f := ⟨_, rfl⟩
     obtain ⟨f1, f2, f3⟩ := face_at hF ht hf
     rw [← hx] at f1
     have hx1 := hU.lt t f ht hf
     have hx2 := hU.sym t f ht hf
     have hx3 := hU.self t f ht hf
     rw [← hx] at hx1 hx2 hx3
     have hpf := pm_lt x.2 hf
     obtain ⟨y1, y2, y3⟩ := face_at hF hx1 hpf
     rw [hx2] at y1
     obtain ⟨H1, hH1⟩ : ∃ H, H = h' ++ [O.cells (faceL x) 99 (some 0)] := ⟨_, rfl⟩
     have hs1 : Sub h' H1 := by rw [hH1]; exact (Sub.refl _).app _
     have c1 : H1[h'.length]? = some (O.cells (faceL x) 99 (some 0)) := by rw [hH1, app_at0]; rfl
     have hb0' := hs1 _ _ hb0
     have hb1' := hs1 _ _ hb1
     have hv := validR_ hE (h := H1) (p := pm x.2) ⟨fun a ha => pm_lt _ ha, fun a b _ _ e => by rw [← pm_pm x.2 a, e, pm_pm]⟩
     have hi := inverseR_ hE (h := H1) x.2
     have hP := faceL_P x hf
     have hj : joined ⟨H1, h.length⟩ ⟨H1, H1.length⟩ = ⟨H1, h.length⟩ := joined_mk _ _
     simp only [permW, permV] at hv hi
     simp only [faceL] at f1 y1 hH1 c1 hP
     have n1 : ¬ ((x.1 : Nat) : Int) = -1 := by omega
     have n2 : ¬ ((x.1 : Nat) : Int) < 0 := by omega
     have n3 : ¬ ((N : Nat) : Int) ≤ (x.1 : Nat) := by omega
     have n4 : ((pm x.2 f : Nat) : Int) < 4 := by omega
     have hmin : min h.length h'.length = h.length := by have := hBs.len; have := hs.len; omega
     have hk := face_key (t, x.2)
     have hs2 := face_same (t, x.2)
     simp only [faceL] at hk hs2
     by_cases hxt : x.1 = t
     ·have hxf : ¬ pm x.2 f = f := fun hh => hx3 ⟨hxt, hh⟩
      simp [g1, g3, g4, g5, hf', rd_def, ↓hb0, ↓hb1, rdN_def, ht, ht', f1, f2, wrN_at0, set_at0, ↓← hH1, ↓c1, n1, n2, n3, DC_of hv, DC_of hi, hj, hP, eq_true hxt, hxf, hmin, ↓hb0', ↓hb1', y1, y2, y3, hx1, n4, hk, hs2, hwf]
      exact ⟨kk' - 1, by omega, f + 1, by omega, hs.trans hs1, by omega⟩
     ·simp [g1, g3, g4, g5, hf', rd_def, ↓hb0, ↓hb1, rdN_def, ht, ht', f1, f2, wrN_at0, set_at0, ↓← hH1, ↓c1, n1, n2, n3, DC_of hv, DC_of hi, hj, hP, hxt, hmin, ↓hb0', ↓hb1', y1, y2, y3, hx1, n4, hk, hs2, hwf]
      exact ⟨kk' - 1, by omega, f + 1, by omega, hs.trans hs1, by omega⟩
    ·simp [g1, g3, g4, g5, show ¬ ((f : Int) < 4) by omega, hw]
     exact ⟨kk - 1, by omega, t + 1, by omega, hs, by omega⟩
   ·exact ⟨0, h', by omega, rfl, hs, by simp [g1, g3, g4]⟩
  ·simp [g1, g3, g4, show ¬ ((t : Int) < N) by omega]
 ·exact ⟨0, hB, by omega, rfl, Sub.refl _, by simp⟩
end Go.Proofs.Ytjlkndkedknocaa
namespace Go.Proofs.Ytjlkndkedknocaa
open Go Go.Ai
attribute [local instance] Classical.propDecidable
def mkO (bs : List Bool) : List Int := bs.map fun b => if b then 0 else -1
theorem mkO_len (bs : List Bool) : (mkO bs).length = bs.length := by simp [mkO]
theorem mkO_nth {bs : List Bool} {i : Nat} (hi : i < bs.length) : nth (mkO bs) i = if bnth bs i then 0 else -1 := by
 simp [mkO, Ai.nth, bnth, hi]
theorem mkO_set (bs : List Bool) (i : Nat) : (mkO bs).set i 0 = mkO (bs.set i true) := by simp [mkO, List.map_set]
theorem ints_ext {xs ys : List Int} (hl : xs.length = ys.length) (h : ∀ j, j < xs.length → nth xs j = nth ys j) : xs = ys := by
 refine List.ext_getElem hl fun j h1 h2 => ?_
 have := h j h1
 simpa [Ai.nth, h1, h2] using this
theorem bnth_false (N i : Nat) : bnth (List.replicate N false) i = false := by
 by_cases h : i < N <;> simp [bnth, List.getElem?_replicate, h]
structure PaI (H h : List O) (P N : Nat) (bs : List Bool) : Prop where
 keep : ∀ (b : Nat) (o : O), H[b]? = some o → b ≠ P → h[b]? = some o
 out : h[P]? = some (.cells (intsC (mkO bs)) 3 (some 0))
 len : bs.length = N
 le : H.length ≤ h.length
structure PaQ (H h : List O) (N k f qb : Nat) (nb : Nat → Nat → Option Nat) (bs : List Bool) (qs : List Nat) : Prop where
 q : CQ N nb 0 k f (List.replicate N false) bs qs
 own : OwnT h H.length (.slice (some ⟨qb, 0, none⟩) qs.length qs.length) qs.length (natsC qs) 3 1
 cnt : qs.length + unm bs ≤ N
 hd : bnth bs 0 = true
variable {E : Env} (hE : OE E)
include hE
theorem partsG_ {h : List O} {a : Option Addr} {N c : Nat} {e : Nat → Nat → Nat × Bool} (hg : GluP h a N e) (hU : GlU N e) :
  DC E 29 [.agg #[.slice a N c]] ⟨h, h.length⟩ fun o st' => ∃ P, o = .ret (.tuple #[.slice (some ⟨P, 0, none⟩) N N, .int .i64 0]) ∧ h.length ≤ P ∧ h.length ≤ st'.fl ∧ Sub h st'.h ∧ st'.h[P]? = some (.cells (intsC (List.replicate N 0)) 3 (some 0)) := by
 refine hE.fnC (body := rb29) rfl ?_
 unfold rb29
 have hchk := fun H (hs : Sub h H) => checkG_ hE (c := c) (hg.sub hs) hU
 obtain ⟨hN0, hN, bb, cs, el, own, rfl, hbb, hF⟩ := hg
 obtain ⟨hB, hhB⟩ : ∃ H, H = h ++ [O.cells [.slice (some ⟨bb, 0, none⟩) N c] 29 (some 0)] := ⟨_, rfl⟩
 have hBs : Sub h hB := by rw [hhB]; exact (Sub.refl _).app _
 have b0 : hB[h.length]? = some (O.cells [.slice (some ⟨bb, 0, none⟩) N c] 29 (some 0)) := by rw [hhB, app_at0]; rfl
 have b1 := hBs _ _ hbb
 have lB : hB.length = h.length + 1 := by rw [hhB]; simp
 have e1 : (N : Int) * 8 ≤ 140737488355328 := by omega
 have e2 : (N : Int) < 4611686018427387904 := by omega
 have hck := hchk hB hBs
 have hj : joined ⟨hB, h.length⟩ ⟨hB, hB.length⟩ = ⟨hB, h.length⟩ := joined_mk _ _
 have hrep : rep N [Value.int .i64 0] = intsC (List.replicate N 0) := by
  simp [rep, intsC]
 simp [List.append_assoc, rd_at0, ↓← hhB, rd_def, ↓b0, rdN_def, DC_of hck, hj, e1, e2, hrep]
 obtain ⟨P, hP⟩ : ∃ P, P = hB.length := ⟨_, rfl⟩
 obtain ⟨H, hH⟩ : ∃ H, H = hB ++ [O.cells (intsC (List.replicate N 0)) 3 (some 0)] := ⟨_, rfl⟩
 have hs1 : Sub hB H := by rw [hH]; exact (Sub.refl _).app _
 have lH : H.length = P + 1 := by rw [hH, hP]; simp
 have hHP : H[P]? = some (O.cells (intsC (List.replicate N 0)) 3 (some 0)) := by rw [hH, hP, app_at0]; rfl
 have c0 := hs1 _ _ b0
 have c1 := hs1 _ _ b1
 have nP0 : h.length ≠ P := by omega
 have nP1 : bb ≠ P := by have := (List.getElem?_eq_some_iff.1 b1).1; omega
 have hmP : min h.length P = h.length := by omega
 rw [← hH, ← hP]
 refine DW_loop (fun kk fr st => ∃ (i : Nat) (h' : List O) (xs : List Int), i + kk = N ∧ st = ⟨h', h.length⟩ ∧ xs.length = N ∧ (∀ j, j < i → nth xs j = -1) ∧ (∀ (b : Nat) (o : O), H[b]? = some o → b ≠ P → h'[b]? = some o) ∧ h'[P]? = some (.cells (intsC xs) 3 (some 0)) ∧ h'.length = H.length ∧
  get fr 1 = .pointer (some ⟨h.length, 0, none⟩) ∧ get fr 4 = .slice (some ⟨P, 0, none⟩) N N ∧ get fr 5 = .int .i64 i) ?_ (k := N) ?_
 ·rintro kk fr st ⟨i, h', xs, hik, rfl, hl, hx, hk, hat, hlen, g1, g4, g5⟩
  by_cases hi : i < N
  ·have hw : IntKind.i64.wrap ((i : Int) + 1) = (i : Int) + 1 := by rw [w64_id] <;> omega
   have hi2 : i < xs.length := by omega
   have hi3 : i + 1 ≤ xs.length := by omega
   simp [g1, g4, g5, hi, ↓hat, wrN_def, hi3, hmP, hw, intsC_set]
   refine ⟨kk - 1, by omega, i + 1, by omega, xs.set i (-1), by simp [hl], fun j hj => ?_, fun b o hb hne => set_ne (hk b o hb hne) hne, set_self hat, hlen, by omega⟩
   rw [nth_set hi2]
   split
   ·rfl
   ·exact hx j (by omega)
  ·have hxs : xs = mkO (List.replicate N false) := by
    refine ints_ext (by simp [mkO, hl]) fun j hj => ?_
    rw [hx j (by omega), mkO_nth (by simp; omega), bnth_rep (by omega)]
    simp
   subst hxs
   simp [g1, g4, g5, hi]
   refine DW_loop (fun kk fr st => ∃ (t : Nat) (h' : List O) (bs : List Bool), t + kk = N ∧ st = ⟨h', h.length⟩ ∧ PaI H h' P N bs ∧ (t = 0 → bs = List.replicate N false ∧ get fr 6 = .int .i64 0) ∧ (0 < t → ∀ i, i < N → bnth bs i = true) ∧
    get fr 1 = .pointer (some ⟨h.length, 0, none⟩) ∧ get fr 4 = .slice (some ⟨P, 0, none⟩) N N ∧ get fr 7 = .int .i64 t) ?_ (k := N) ?_
   ·clear g1 g4 g5 hat hlen hk hx hl
    clear h'
    rintro kk fr st ⟨t, h', bs, htk, rfl, hI, hz, hp, g1, g4, g7⟩
    have hat := hI.out
    have hbl := hI.len
    by_cases ht : t < N
    ·have hw : IntKind.i64.wrap ((t : Int) + 1) = (t : Int) + 1 := by rw [w64_id] <;> omega
     have hgt : t < (mkO bs).length := by rw [mkO_len]; omega
     by_cases ht0 : 0 < t
     ·have hv : nth (mkO bs) t = 0 := by rw [mkO_nth (by omega), hp ht0 t ht]; rfl
      simp [g1, g4, g7, ht, rd_def, ↓hat, intsC_get hgt, hv, hw]
      exact ⟨kk - 1, by omega, t + 1, by omega, bs, hI, fun h => by omega, fun _ => hp ht0, by omega⟩
     ·obtain rfl : t = 0 := by omega
      obtain ⟨rfl, g6⟩ := hz rfl
      have hv : nth (mkO (List.replicate N false)) 0 = -1 := by rw [mkO_nth (by simp; omega), bnth_rep (by omega)]; rfl
      have hPl := (List.getElem?_eq_some_iff.1 hat).1
      obtain ⟨H2, hH2⟩ : ∃ H2, H2 = h' ++ [O.cells [Value.int .i64 0] 3 (some 0)] := ⟨_, rfl⟩
      have s2 : Sub h' H2 := by rw [hH2]; exact (Sub.refl _).app _
      have q2 : H2[h'.length]? = some (O.cells [Value.int .i64 0] 3 (some 0)) := by rw [hH2, app_at0]; rfl
      have l2 : H2.length = h'.length + 1 := by rw [hH2]; simp
      have a2 := s2 _ _ hat
      have hgt1 : 1 ≤ (mkO (List.replicate N false)).length := by omega
      obtain ⟨H3, hH3⟩ : ∃ H3, H3 = H2.set P (O.cells (intsC (mkO ((List.replicate N false).set 0 true))) 3 (some 0)) := ⟨_, rfl⟩
      have a3 : H3[P]? = some (O.cells (intsC (mkO ((List.replicate N false).set 0 true))) 3 (some 0)) := by rw [hH3]; exact set_self a2
      have q3 : H3[h'.length]? = some (O.cells [Value.int .i64 0] 3 (some 0)) := by rw [hH3]; exact set_ne q2 (by omega)
      have l3 : H3.length = h'.length + 1 := by rw [hH3]; simp [l2]
      have hi3 : intsC (mkO ((List.replicate N false).set 0 true)) = (intsC (mkO (List.replicate N false))).set 0 (.int .i64 0) := by rw [intsC_set, mkO_set]
      rw [hi3] at hH3
      have I3 : PaI H H3 P N ((List.replicate N false).set 0 true) := ⟨fun b o hb hne => by rw [hH3]; exact set_ne (s2 _ _ (hI.keep b o hb hne)) hne, a3, by simp, by have := hI.le; omega⟩
      have Q3 : PaQ H H3 N 0 0 h'.length (nbE e) ((List.replicate N false).set 0 true) [0] := by
       refine ⟨CQ.start CB.start hN0, .inr ⟨by simp [natsC], .inr ⟨h'.length, 0, rfl, hI.le, q3, .inl rfl⟩⟩, ?_, ?_⟩
       ·have := unm_set (bs := List.replicate N false) (i := 0) (by simp; omega) (bnth_rep (by omega))
        have := unm_le (List.replicate N false)
        simp only [List.length_replicate, List.length_singleton] at *
        omega
       ·rw [bnth_set (by simp; omega), if_pos rfl]
      simp [g1, g4, g6, g7, ht, rd_def, ↓hat, intsC_get hgt, hv, hw, ↓← hH2, wrN_def, ↓a2, hgt1, ↓← hH3, hmP]
      refine DW_loop (fun kk2 fr st => ∃ (k2 : Nat) (h' : List O) (bs : List Bool) (qs : List Nat) (qb : Nat), k2 + kk2 = N ∧ st = ⟨h', h.length⟩ ∧ PaI H h' P N bs ∧ PaQ H h' N k2 0 qb (nbE e) bs qs ∧ k2 ≤ qs.length ∧
       get fr 1 = .pointer (some ⟨h.length, 0, none⟩) ∧ get fr 4 = .slice (some ⟨P, 0, none⟩) N N ∧ get fr 6 = .int .i64 0 ∧ get fr 7 = .int .i64 0 ∧ get fr 8 = .slice (some ⟨qb, 0, none⟩) qs.length qs.length ∧ get fr 9 = .int .i64 k2) ?_ (k := N) ?_
      ·clear g1 g4 g6 g7 hI hat hPl hH2 s2 q2 l2 a2 hH3 a3 q3 l3 I3 Q3
       clear H2 H3 h'
       rintro kk2 fr st ⟨k2, h', bs, qs, qb, hkk, rfl, hI, hQ, hkq, g1, g4, g6, g7, g8, g9⟩
       have hcn := hQ.cnt
       by_cases hk2 : k2 < qs.length
       ·simp [g1, g4, g6, g7, g8, g9, hk2]
        refine DW_loop (fun kk3 fr st => ∃ (f : Nat) (h' : List O) (bs : List Bool) (qs : List Nat) (qb : Nat), f + kk3 = 4 ∧ st = ⟨h', h.length⟩ ∧ PaI H h' P N bs ∧ PaQ H h' N k2 f qb (nbE e) bs qs ∧ k2 < qs.length ∧
         get fr 1 = .pointer (some ⟨h.length, 0, none⟩) ∧ get fr 4 = .slice (some ⟨P, 0, none⟩) N N ∧ get fr 6 = .int .i64 0 ∧ get fr 7 = .int .i64 0 ∧ get fr 8 = .slice (some ⟨qb, 0, none⟩) qs.length qs.length ∧ get fr 9 = .int .i64 k2 ∧ get fr 10 = .int .i64 f) ?_ (k := 4) ?_
        ·clear g1 g4 g6 g7 g8 g9 hI hQ hcn hk2 hkq
         clear h' bs qs qb
         rintro kk3 fr st ⟨f, h', bs, qs, qb, hfk, rfl, hI, hQ, hk2, g1, g4, g6, g7, g8, g9, g10⟩
         have hcn := hQ.cnt
         by_cases hf : f < 4
         ·have hf' : (f : Int) < 4 := by omega
          have hwf : IntKind.i64.wrap ((f : Int) + 1) = (f : Int) + 1 := by rw [w64_id] <;> omega
          obtain ⟨u, hu⟩ : ∃ u, u = qn qs k2 := ⟨_, rfl⟩
          have huN := (hQ.q.inq u (by rw [hu]; exact qn_mem hk2)).1
          obtain ⟨qa, hqv, hqo⟩ := hQ.own.look
          obtain ⟨qb', qs', hqb, qlo, qat⟩ := hqo (by omega)
          cases hqv
          cases hqb
          have hqn := natsC_qn hk2
          rw [← hu] at hqn
          have hb0 := hI.keep _ _ c0 nP0
          have hb1 := hI.keep _ _ c1 nP1
          have hat := hI.out
          have hPl := (List.getElem?_eq_some_iff.1 hat).1
          obtain ⟨w, hwe⟩ : ∃ w, w = (e u f).1 := ⟨_, rfl⟩
          have f3 := (face_at hF huN hf).2.2
          rw [← hwe] at f3
          have hwN : w < N := by rw [hwe]; exact hU.lt u f huN hf
          have hwm : w < (mkO bs).length := by rw [mkO_len, hI.len]; exact hwN
          have hwb : w < bs.length := by rw [hI.len]; exact hwN
          have hnb : nbE e (qn qs k2) f = some w := by rw [← hu, hwe]; rfl
          have hv := mkO_nth hwb
          cases hbw : bnth bs w
          ·rw [hbw] at hv
           simp only [Bool.false_eq_true, if_false] at hv
           have hwm1 : w + 1 ≤ (mkO bs).length := by omega
           obtain ⟨bs', hbs'⟩ : ∃ bs', bs' = bs.set w true := ⟨_, rfl⟩
           obtain ⟨H4, hH4⟩ : ∃ H4, H4 = h'.set P (O.cells (intsC (mkO bs')) 3 (some 0)) := ⟨_, rfl⟩
           have a4 : H4[P]? = some (O.cells (intsC (mkO bs')) 3 (some 0)) := by rw [hH4]; exact set_self hat
           have K4 : ∀ (b : Nat) (o : O), h'[b]? = some o → b ≠ P → H4[b]? = some o := fun b o hb hne => by rw [hH4]; exact set_ne hb hne
           have l4 : H4.length = h'.length := by rw [hH4]; simp
           obtain ⟨H5, hH5⟩ : ∃ H5, H5 = H4 ++ [O.cells [Value.int .i64 w] 3 (some 0)] := ⟨_, rfl⟩
           have s5 : Sub H4 H5 := by rw [hH5]; exact (Sub.refl _).app _
           have l5 : H5.length = h'.length + 1 := by rw [hH5]; simp [l4]
           have ho5 : OwnT H5 H.length (.slice (some ⟨qb, 0, none⟩) qs.length qs.length) qs.length (natsC qs) 3 1 := hQ.own.keep fun b sz _ hlo hb => s5 _ _ (K4 _ _ hb (by omega))
           have hread : readSlice H5 1 1 (some ⟨H4.length, 0, none⟩) = some [.int .i64 w] := by rw [hH5]; simp [readSlice, rdN_at0]
           obtain ⟨b', H7, f7, hap, hb', hown, hf1, hf2, hL7, K7⟩ := append_T (fl := h.length) (c := 1) (bytes := 8) ho5 hread (by simp) rfl (by have := hI.le; omega) (by simp only [roomMax]; omega) (by omega)
           obtain rfl : f7 = h.length := by omega
           rw [l4] at hap
           have hunm := unm_set hwb hbw
           rw [← natsC_append] at hown
           have hle := hI.le
           have hq' := hQ.q.add hk2 hf hnb hwN
           rw [← hbs'] at hq' hunm
           have hd7 : bnth bs' 0 = true := by
            rw [hbs', bnth_set hwb]
            split
            ·rfl
            ·exact hQ.hd
           have Q7 : PaQ H H7 N k2 (f + 1) b' (nbE e) bs' (qs ++ [w]) := ⟨hq', by simpa using hown, by simp; omega, hd7⟩
           have I7 : PaI H H7 P N bs' := ⟨fun b o hb hne => K7 _ _ (s5 _ _ (K4 _ _ (hI.keep b o hb hne) hne)) (.inl (List.getElem?_eq_some_iff.1 hb).1), K7 _ _ (s5 _ _ a4) (.inl (by omega)), by rw [hbs']; simp [hI.len], by omega⟩
           have hset : (intsC (mkO bs)).set w (.int .i64 0) = intsC (mkO bs') := by rw [intsC_set, mkO_set, hbs']
           simp [g1, g4, g6, g7, g8, g9, g10, hf', hk2, rd_def, ↓qat, hqn, huN, ↓hb0, ↓hb1, f3, hwN, ↓hat, intsC_get hwm, hv, wrN_def, hwm1, hset, ↓← hH4, l4, ↓← hH5, hap, hmP, hwf]
           exact ⟨kk3 - 1, by omega, f + 1, by omega, bs', I7, qs ++ [w], b', Q7, by simp; omega, ⟨rfl, by simp⟩, by omega⟩
          ·rw [hbw] at hv
           simp only [if_true] at hv
           simp [g1, g4, g6, g7, g8, g9, g10, hf', hk2, rd_def, ↓qat, hqn, huN, ↓hb0, ↓hb1, f3, hwN, ↓hat, intsC_get hwm, hv, hwf]
           exact ⟨kk3 - 1, by omega, f + 1, by omega, bs, hI, qs, qb, ⟨hQ.q.pass fun w' hw' => by rw [hnb] at hw'; obtain rfl := Option.some.inj hw'; exact hbw, hQ.own, hQ.cnt, hQ.hd⟩, hk2, ⟨rfl, rfl⟩, by omega⟩
         ·obtain rfl : f = 4 := by omega
          have hwk : IntKind.i64.wrap ((k2 : Int) + 1) = (k2 : Int) + 1 := by rw [w64_id] <;> omega
          simp [g1, g4, g6, g7, g8, g9, g10, hwk]
          exact ⟨kk2 - 1, by omega, k2 + 1, by omega, bs, hI, qs, qb, ⟨hQ.q.next, hQ.own, hQ.cnt, hQ.hd⟩, hk2, ⟨rfl, rfl⟩, by omega⟩
        ·exact ⟨0, h', bs, qs, qb, by omega, rfl, hI, hQ, hk2, by simp [g1, g4, g6, g7, g8, g9]⟩
       ·have hall := fun i hi => (CQ.all hQ.q (by omega) hN0 (fun i => bnth_false N i) hQ.hd (fun u f w hu hf hw => by obtain rfl := Option.some.inj hw; exact hU.lt u f hu hf) i hi).2 (hU.conn i hi)
        have w1 : IntKind.i64.wrap 1 = 1 := by decide
        simp [g1, g4, g6, g7, g8, g9, hk2, w1]
        exact ⟨kk - 1, by omega, 1, by omega, bs, hI, fun h => by omega, fun _ => hall, rfl⟩
      ·exact ⟨0, H3, _, [0], h'.length, by omega, rfl, I3, Q3, by simp, by simp [g1, g4, g6, g7]⟩
    ·have htN : t = N := by omega
     have hbs : mkO bs = List.replicate N 0 := by
      refine ints_ext (by simp [mkO_len, hbl]) fun j hj => ?_
      rw [mkO_len] at hj
      rw [mkO_nth hj, hp (by omega) j (by omega)]
      simp [Ai.nth, show j < N by omega]
     rw [hbs] at hat
     simp [g1, g4, g7, ht]
     unfold pairQ back
     rw [if_neg (by simp [Out.scalar, scalar, flat1, flat])]
     exact ⟨P, rfl, by omega, Nat.le_refl _, fun b o hb => hI.keep b o (hs1 _ _ (hBs _ _ hb)) (by have := (List.getElem?_eq_some_iff.1 hb).1; omega), hat⟩
   ·exact ⟨0, h', List.replicate N false, by omega, rfl, ⟨hk, hat, by simp, by omega⟩, fun _ => ⟨rfl, by simp⟩, fun h => by omega, by simp [g1, g4]⟩
 ·exact ⟨0, H, List.replicate N 0, by omega, rfl, by simp, fun j hj => by omega, fun b o hb _ => hb, hHP, rfl, by simp⟩
end Go.Proofs.Ytjlkndkedknocaa
namespace Go.Proofs.Ytjlkndkedknocaa
open Go Go.Ai
attribute [local instance] Classical.propDecidable
def PermB (f : List Int) : Prop := PermL f.length f ∧ 1 ≤ f.length ∧ f.length ≤ 200
def PermsA (A : List (List Int)) : Prop := ∀ i, i < A.length → (nthR A i).length = (nthR A 0).length ∧ PermB (nthR A i)
def invA (A : List (List Int)) : List (List Int) := A.map invL
def HomA (G : Dg) (A : List (List Int)) : Prop := ∀ i, i < G.n → TrivL A (invA A) (relOf G i) (nthR A 0).length
noncomputable def checkD (G : Dg) (A : List (List Int)) : Int := if (A.length : Int) = arC G + G.L then (if PermsA A then (if HomA G A then 0 else 5) else 1) else 1
theorem invA_length (A : List (List Int)) : (invA A).length = A.length := by simp [invA]
theorem invA_at {A : List (List Int)} {i : Nat} (h : i < A.length) : nthR (invA A) i = invL (nthR A i) := by simp [invA, nthR, h]
theorem PermsA.rows {A : List (List Int)} (h : PermsA A) : RowsOk (nthR A 0).length A := fun k hk => by
 obtain ⟨h1, h2, _⟩ := h k hk
 exact ⟨h1, by rw [← h1]; exact h2.rng⟩
theorem PermsA.inv {A : List (List Int)} (h : PermsA A) : RowsOk (nthR A 0).length (invA A) := fun k hk => by
 rw [invA_length] at hk
 obtain ⟨h1, h2, _⟩ := h k hk
 have := h2.inv
 rw [invA_at hk, ← h1]
 exact ⟨this.len, this.rng⟩
variable {E : Env} (hE : OE E)
include hE
end Go.Proofs.Ytjlkndkedknocaa
namespace Go.Proofs.Ytjlkndkedknocaa
open Go Go.Ai
attribute [local instance] Classical.propDecidable
variable {E : Env} (hE : OE E)
include hE
end Go.Proofs.Ytjlkndkedknocaa
namespace Go.Ai
attribute [local instance] Classical.propDecidable
def visL (n : Nat) : Nat → List Int → List (List Int)
 | 0, f => [f]
 | m + 1, f => (List.range n).flatMap fun (x : Nat) => if (x : Int) ∈ f then [] else visL n m (f ++ [(x : Int)])
def visI (n m : Nat) (f : List Int) (i : Nat) : List (List Int) := (List.range i).flatMap fun (x : Nat) => if (x : Int) ∈ f then [] else visL n m (f ++ [(x : Int)])
end Go.Ai
namespace Go.Proofs.Ytjlkndkedknocaa
open Go Go.Ai
attribute [local instance] Classical.propDecidable
variable {E : Env} (hE : OE E)
include hE
end Go.Proofs.Ytjlkndkedknocaa
namespace Go.Proofs.Ytjlkndkedknocaa
open Go Go.Ai
attribute [local instance] Classical.propDecidable
def PrmI (h : List O) (lo n : Nat) (vs : List Value) (Ls : List (List Int)) : Prop :=
 ∀ q, q < Ls.length → ∃ b, vs[q]? = some (.slice (some ⟨b, 0, none⟩) n n) ∧ lo ≤ b ∧ h[b]? = some (.cells (intsC (nthR Ls q)) 3 (some 1))
structure VsI (h : List O) (lo n B po k : Nat) (f : List Int) (Ls : List (List Int)) : Prop where
 buf : ∃ buf, h[B]? = some (.cells (intsC buf) 3 (some 0)) ∧ buf.length = n ∧ buf.take k = f
 out : ∃ ov vs, h[po]? = some (.cells [ov] 48 (some 0)) ∧ OwnS h lo ov Ls.length vs 34 1 ∧ PrmI h lo n vs Ls
 lo_ : lo ≤ h.length
def VisP (h : List O) (base lo n B po k : Nat) (f : List Int) (Ls : List (List Int)) (st' : St) : Prop :=
 base ≤ st'.fl ∧ h.length ≤ st'.h.length ∧ (∀ (b : Nat) (o : O), b < lo → h[b]? = some o → b ≠ po → b ≠ B → st'.h[b]? = some o) ∧ VsI st'.h lo n B po k f Ls
def visV (pn po pv : Nat) : Value := .func (.func 186) #[] #[.pointer (some ⟨pn, 0, none⟩), .pointer (some ⟨po, 0, none⟩), .pointer (some ⟨pv, 0, none⟩)]
variable {E : Env} (hE : OE E)
include hE
end Go.Proofs.Ytjlkndkedknocaa
namespace Go.Ai
def permL (n : Nat) : List (List Int) := visL n n []
end Go.Ai
namespace Go.Proofs.Ytjlkndkedknocaa
open Go Go.Ai
attribute [local instance] Classical.propDecidable
def PermsP (h : List O) (lo n : Nat) (v : Value) : Prop := ∃ vs, OwnS h lo v (permL n).length vs 34 1 ∧ PrmI h lo n vs (permL n)
theorem PrmI.keep {h h' : List O} {lo n : Nat} {vs : List Value} {Ls : List (List Int)} (k : PrmI h lo n vs Ls) (hk : ∀ (b : Nat) (o : O), lo ≤ b → h[b]? = some o → h'[b]? = some o) : PrmI h' lo n vs Ls := fun q hq => by
 obtain ⟨b, h1, h2, h3⟩ := k q hq
 exact ⟨b, h1, h2, hk b _ h2 h3⟩
theorem PermsP.keep {h h' : List O} {lo n : Nat} {v : Value} (k : PermsP h lo n v) (hk : ∀ (b : Nat) (o : O), lo ≤ b → h[b]? = some o → h'[b]? = some o) : PermsP h' lo n v := by
 obtain ⟨vs, h1, h2⟩ := k
 refine ⟨vs, h1.keep fun b s e1 e2 => ?_, h2.keep hk⟩
 rcases h1.2 with ⟨z1, _⟩ | ⟨b2, s2, z1, z2, z3, _⟩
 ·rw [z1] at e1; cases e1
 ·rw [z1] at e1
  simp only [Value.slice.injEq, Option.some.injEq, Addr.mk.injEq] at e1
  exact hk b _ (by omega) e2
theorem PermsP.look {h : List O} {lo n : Nat} {v : Value} (k : PermsP h lo n v) : ∃ a, v = .slice a (permL n).length (permL n).length ∧ ∀ q, q < (permL n).length → ∃ b b', a = some ⟨b, 0, none⟩ ∧ lo ≤ b ∧ rdO h[b]? q = some (.slice (some ⟨b', 0, none⟩) n n) ∧ lo ≤ b' ∧ h[b']? = some (.cells (intsC (nthR (permL n) q)) 3 (some 1)) := by
 obtain ⟨vs, ⟨h1, h2⟩, h3⟩ := k
 rcases h2 with ⟨rfl, h0⟩ | ⟨b, s, rfl, hb, hc, _⟩
 ·exact ⟨none, by rw [h0], fun q hq => by omega⟩
 ·refine ⟨_, rfl, fun q hq => ?_⟩
  obtain ⟨b', r1, r2, r3⟩ := h3 q hq
  exact ⟨b, b', rfl, hb, by rw [hc]; exact r1, r2, r3⟩
variable {E : Env} (hE : OE E)
include hE
end Go.Proofs.Ytjlkndkedknocaa
namespace Go.Proofs.Ytjlkndkedknocaa
open Go Go.Ai
attribute [local instance] Classical.propDecidable
structure AskI (h : List O) (pI pK pN n : Nat) (A B : List (List Int)) : Prop where
 vI : ∃ v, h[pI]? = some (.cells [v] 48 (some 0)) ∧ Mat h v A
 vK : ∃ v, h[pK]? = some (.cells [v] 48 (some 0)) ∧ Mat h v B
 vN : h[pN]? = some (.cells [.int .i64 n] 3 (some 0))
 rA : RowsOk n A
 rB : RowsOk n B
 len : B.length = A.length
 small : A.length ≤ 100000 ∧ n ≤ 100000
def askV (pI pK pN : Nat) : Value := .func (.func 191) #[] #[.pointer (some ⟨pI, 0, none⟩), .pointer (some ⟨pK, 0, none⟩), .pointer (some ⟨pN, 0, none⟩)]
variable {E : Env} (hE : OE E)
include hE
end Go.Proofs.Ytjlkndkedknocaa
namespace Go.Ai
attribute [local instance] Classical.propDecidable
def lastW (w : List Int) : Nat := w.foldl (fun m x => max m x.natAbs) 0
def readyL (rels : List (List Int)) (j : Nat) : List (List Int) := rels.filter fun r => lastW r == j
def GoodA (n : Nat) (rels A : List (List Int)) : Prop := ∀ i, i < (readyL rels A.length).length → TrivL A (A.map invL) (nthR (readyL rels A.length) i) n
def sumNat (f : Nat → Nat) : Nat → Nat
 | 0 => 0
 | i + 1 => sumNat f i + f i
noncomputable def cntV (n : Nat) (P rels : List (List Int)) : Nat → List (List Int) → Nat
 | 0, _ => 1
 | m + 1, im => sumNat (fun q => if GoodA n rels (im ++ [nthR P q]) then cntV n P rels m (im ++ [nthR P q]) else 0) P.length
noncomputable def cntI (n : Nat) (P rels : List (List Int)) (m : Nat) (im : List (List Int)) (i : Nat) : Nat := sumNat (fun q => if GoodA n rels (im ++ [nthR P q]) then cntV n P rels m (im ++ [nthR P q]) else 0) i
end Go.Ai
namespace Go.Proofs.Ytjlkndkedknocaa
open Go Go.Ai
attribute [local instance] Classical.propDecidable
def SubX (pI pK B1 B2 pO : Nat) (h h' : List O) : Prop := ∀ (b : Nat) (o : O), h[b]? = some o → b ≠ pI → b ≠ pK → b ≠ B1 → b ≠ B2 → b ≠ pO → h'[b]? = some o
theorem SubX.refl (pI pK B1 B2 pO : Nat) (h : List O) : SubX pI pK B1 B2 pO h h := fun _ _ k _ _ _ _ _ => k
theorem SubX.trans {pI pK B1 B2 pO : Nat} {a b c : List O} (h : SubX pI pK B1 B2 pO a b) (k : SubX pI pK B1 B2 pO b c) : SubX pI pK B1 B2 pO a c := fun x o e h1 h2 h3 h4 h5 => k x o (h x o e h1 h2 h3 h4 h5) h1 h2 h3 h4 h5
theorem SubX.app {pI pK B1 B2 pO : Nat} {h h' : List O} (k : SubX pI pK B1 B2 pO h h') (l : List O) : SubX pI pK B1 B2 pO h (h' ++ l) := fun b o e h1 h2 h3 h4 h5 => app_of (k b o e h1 h2 h3 h4 h5) l
theorem SubX.set {pI pK B1 B2 pO : Nat} {h h' : List O} (k : SubX pI pK B1 B2 pO h h') {b : Nat} (hb : b = pI ∨ b = pK ∨ b = B1 ∨ b = B2 ∨ b = pO) (o : O) : SubX pI pK B1 B2 pO h (h'.set b o) := fun c o' e h1 h2 h3 h4 h5 => set_ne (k c o' e h1 h2 h3 h4 h5) (by omega)
def RowsB (h : List O) (B c n pO : Nat) (A : List (List Int)) : Prop :=
 ∃ cs, h[B]? = some (.cells cs 34 (some 0)) ∧ cs.length = c ∧ ∀ q, q < A.length → ∃ b s, cs[q]? = some (.slice (some ⟨b, 0, none⟩) n n) ∧ b ≠ pO ∧ h[b]? = some (.cells (intsC (nthR A q)) 3 (some s))
structure DynI (h : List O) (pI pK B1 B2 pO n gens gl : Nat) (c : Int) (A : List (List Int)) : Prop where
 i : h[pI]? = some (.cells [.slice (some ⟨B1, 0, none⟩) gl gens] 48 (some 0))
 k : h[pK]? = some (.cells [.slice (some ⟨B2, 0, none⟩) gl gens] 48 (some 0))
 b1 : RowsB h B1 gens n pO A
 b2 : RowsB h B2 gens n pO (invA A)
 o : h[pO]? = some (.cells [.int .i64 c] 3 (some 0))
theorem nthR_snoc {A : List (List Int)} {f : List Int} {q : Nat} : nthR (A ++ [f]) q = if q < A.length then nthR A q else if q = A.length then f else [] := by
 unfold nthR
 by_cases h : q < A.length
 ·rw [if_pos h]; simp [List.getD_eq_getElem?_getD, List.getElem?_append_left h]
 ·rw [if_neg h, List.getD_eq_getElem?_getD, List.getElem?_append_right (by omega)]
  by_cases e : q = A.length
  ·rw [if_pos e, e]; simp
  ·rw [if_neg e, List.getElem?_eq_none (by simp; omega)]; rfl
theorem RowsB.add {h H : List O} {B c n pO b s : Nat} {A : List (List Int)} {f : List Int} {cs : List Value} (hc : h[B]? = some (.cells cs 34 (some 0))) (hl : cs.length = c) (hr : ∀ q, q < A.length → ∃ b s, cs[q]? = some (.slice (some ⟨b, 0, none⟩) n n) ∧ b ≠ pO ∧ h[b]? = some (.cells (intsC (nthR A q)) 3 (some s)))
  (hA : A.length < c) (hH : H[B]? = some (.cells (cs.set A.length (.slice (some ⟨b, 0, none⟩) n n)) 34 (some 0))) (hk : ∀ b' cs' s', h[b']? = some (.cells cs' 3 (some s')) → b' ≠ pO → H[b']? = some (.cells cs' 3 (some s')))
  (hb : b ≠ pO) (hf : H[b]? = some (.cells (intsC f) 3 (some s))) : RowsB H B c n pO (A ++ [f]) := by
 refine ⟨_, hH, by simp [hl], fun q hq => ?_⟩
 simp at hq
 rw [nthR_snoc]
 by_cases e : q < A.length
 ·rw [if_pos e]
  obtain ⟨b1, s1, r1, r2, r3⟩ := hr q e
  exact ⟨b1, s1, by rw [List.getElem?_set_ne (by omega)]; exact r1, r2, hk _ _ _ r3 r2⟩
 ·have eq : q = A.length := by omega
  rw [if_neg e, if_pos eq, eq]
  exact ⟨b, s, by rw [List.getElem?_set_self (by omega)], hb, hf⟩
theorem RowsB.keep {h h' : List O} {B c n pO : Nat} {A : List (List Int)} (k : RowsB h B c n pO A) (hB : ∀ cs, h[B]? = some (.cells cs 34 (some 0)) → h'[B]? = some (.cells cs 34 (some 0))) (hk : ∀ b' cs' s', h[b']? = some (.cells cs' 3 (some s')) → b' ≠ pO → h'[b']? = some (.cells cs' 3 (some s'))) : RowsB h' B c n pO A := by
 obtain ⟨cs, h1, h2, h3⟩ := k
 refine ⟨cs, hB _ h1, h2, fun q hq => ?_⟩
 obtain ⟨b, s, r1, r2, r3⟩ := h3 q hq
 exact ⟨b, s, r1, r2, hk _ _ _ r3 r2⟩
def visV2 (pI pG pY pA pK pR pN pV : Nat) : Value := .func (.func 189) #[] #[.pointer (some ⟨pI, 0, none⟩), .pointer (some ⟨pG, 0, none⟩), .pointer (some ⟨pY, 0, none⟩), .pointer (some ⟨pA, 0, none⟩), .pointer (some ⟨pK, 0, none⟩), .pointer (some ⟨pR, 0, none⟩), .pointer (some ⟨pN, 0, none⟩), .pointer (some ⟨pV, 0, none⟩)]
structure FixI (E : Env) (h : List O) (aa : Option Addr) (pG pY pA pR pN pV pO k n gens : Nat) (vV : Value) (rels : List (List Int)) : Prop where
 g : ∃ vr, h[pG]? = some (.cells [.int .i64 gens, vr] 81 (some 0))
 y : h[pY]? = some (.cells [tok k] 219 (some 0))
 a : h[pA]? = some (.cells [.slice aa (permL n).length (permL n).length] 48 (some 0))
 rows : ∀ q, q < (permL n).length → ∃ b b', aa = some ⟨b, 0, none⟩ ∧ rdO h[b]? q = some (.slice (some ⟨b', 0, none⟩) n n) ∧ b' ≠ pO ∧ h[b']? = some (.cells (intsC (nthR (permL n) q)) 3 (some 1))
 r : ∃ Rb rv, h[pR]? = some (.cells [.slice (some ⟨Rb, 0, none⟩) (gens + 1) (gens + 1)] 129 (some 0)) ∧ h[Rb]? = some (.cells rv 48 (some 0)) ∧ ∀ j, j < gens + 1 → ∃ v, rv[j]? = some v ∧ Mat h v (readyL rels j)
 n_ : h[pN]? = some (.cells [.int .i64 n] 3 (some 0))
 v : h[pV]? = some (.cells [vV] 25 (some 0))
 call : ∀ (v : Value) (c : Int), h[pO]? = some (.cells [.int .i64 c] 3 (some 0)) → 0 ≤ c ∧ c ≤ 10000000000 → DR E (yB + k) [v] ⟨h, h.length⟩ (.ret (.bool true)) ⟨h.set pO (.cells [.int .i64 (c + 1)] 3 (some 0)), min pO k⟩
end Go.Proofs.Ytjlkndkedknocaa
namespace Go.Proofs.Ytjlkndkedknocaa
open Go Go.Ai
attribute [local instance] Classical.propDecidable
variable {E : Env} (hE : OE E)
include hE
end Go.Proofs.Ytjlkndkedknocaa
namespace Go.Ai
theorem readyL_snoc (R : List (List Int)) (r : List Int) (j : Nat) : readyL (R ++ [r]) j = if lastW r = j then readyL R j ++ [r] else readyL R j := by
 unfold readyL
 rw [List.filter_append]
 by_cases h : lastW r = j
 ·rw [if_pos h]; simp [h]
 ·rw [if_neg h]; simp [h]
theorem readyL_le (R : List (List Int)) (j : Nat) : (readyL R j).length ≤ R.length := List.length_filter_le _ _
end Go.Ai
namespace Go.Proofs.Ytjlkndkedknocaa
open Go Go.Ai
attribute [local instance] Classical.propDecidable
def ReadyS (hb h : List O) (lo : Nat) (v : Value) (R : List (List Int)) : Prop :=
 ∃ ws, OwnS h lo v R.length ws 34 1 ∧ ∀ q, q < R.length → ∃ w, ws[q]? = some w ∧ Ints hb w (nthR R q)
theorem ReadyS.keep {hb h h' : List O} {lo : Nat} {v : Value} {R : List (List Int)} (k : ReadyS hb h lo v R) (hk : ∀ b n c, v = .slice (some ⟨b, 0, none⟩) n c → lo ≤ b → ∀ o, h[b]? = some o → h'[b]? = some o) : ReadyS hb h' lo v R := by
 obtain ⟨ws, h1, h3⟩ := k
 refine ⟨ws, h1.keep fun b s e1 e2 => ?_, h3⟩
 rcases h1.2 with ⟨z1, _⟩ | ⟨b2, s2, z1, z2, z3, _⟩
 ·rw [z1] at e1; cases e1
 ·have e1' := e1
  rw [z1] at e1
  simp only [Value.slice.injEq, Option.some.injEq, Addr.mk.injEq] at e1
  exact hk b _ _ e1' (by omega) _ e2
structure RdI (hb h : List O) (lo Rb gens : Nat) (R : List (List Int)) (rv : List Value) : Prop where
 at_ : h[Rb]? = some (.cells rv 48 (some 0))
 len : rv.length = gens + 1
 lt : Rb < lo
 lo_ : lo ≤ h.length
 each : ∀ j, j < gens + 1 → ∃ v, rv[j]? = some v ∧ ReadyS hb h lo v (readyL R j)
 apart : ∀ (j j' b n c n' c' : Nat), j ≠ j' → rv[j]? = some (Value.slice (some ⟨b, 0, none⟩) n c) → rv[j']? = some (Value.slice (some ⟨b, 0, none⟩) n' c') → False
theorem ReadyS.blk {hb h : List O} {lo : Nat} {v : Value} {R : List (List Int)} (k : ReadyS hb h lo v R) : (v = .slice none 0 0 ∧ R = []) ∨ ∃ b, v = .slice (some ⟨b, 0, none⟩) R.length R.length ∧ lo ≤ b ∧ b < h.length := by
 obtain ⟨ws, ⟨h1, h2⟩, h3⟩ := k
 rcases h2 with ⟨rfl, h0⟩ | ⟨b, s, rfl, hb, hc, _⟩
 ·exact .inl ⟨rfl, List.length_eq_zero_iff.1 h0⟩
 ·exact .inr ⟨b, rfl, hb, (List.getElem?_eq_some_iff.1 hc).1⟩
theorem RdI.add {hb h : List O} {lo Rb gens fl : Nat} {R : List (List Int)} {rv : List Value} {r : List Int} {w : Value} (hI : RdI hb h lo Rb gens R rv) (hw : Ints hb w r) (hw1 : one1 w = true) (hl : lastW r < gens + 1) (hR : R.length ≤ 100000) :
  ∃ v, rv[lastW r]? = some v ∧ (v = .slice none 0 0 ∨ ∃ b n, v = .slice (some ⟨b, 0, none⟩) n n ∧ lo ≤ b) ∧ ∃ b' n' H4 f4, appendV 34 1 24 v (.slice (some ⟨h.length, 0, none⟩) 1 1) ⟨h ++ [.cells [w] 34 (some 0)], fl⟩ = some (.slice (some ⟨b', 0, none⟩) n' n', ⟨H4, f4⟩) ∧ min fl lo ≤ f4 ∧ f4 ≤ fl ∧
   (∀ (b : Nat) (o : O), b < lo → h[b]? = some o → H4[b]? = some o) ∧ h.length ≤ H4.length ∧
   RdI hb (H4.set Rb (.cells (rv.set (lastW r) (.slice (some ⟨b', 0, none⟩) n' n')) 48 (some 0))) lo Rb gens (R ++ [r]) (rv.set (lastW r) (.slice (some ⟨b', 0, none⟩) n' n')) := by
 obtain ⟨v, hv, hS⟩ := hI.each _ hl
 have hblk := hS.blk
 have hS' := hS
 obtain ⟨ws, hown0, hrows⟩ := hS'
 have hread : readSlice (h ++ [.cells [w] 34 (some 0)]) 1 1 (some ⟨h.length, 0, none⟩) = some [w] := by simp [readSlice, rdN_at0]
 have hrl := readyL_le R (lastW r)
 have hlo := hI.lo_
 obtain ⟨b', H4, f4, happ, hb', hown, hf1, hf2, hL4, K4⟩ := append_S (fl := fl) (c := 1) (bytes := 24) (hown0.ext (Ext.snoc h [.cells [w] 34 (some 0)])) hread (by simp) (by simp [hw1]) (by simp; omega) (by simp only [roomMax]; omega) (by omega)
 have hbase : ∀ (b : Nat) (o : O), (∀ n c, v ≠ .slice (some ⟨b, 0, none⟩) n c) → h[b]? = some o → H4[b]? = some o := fun b o hn hb => K4 b o (app_of hb _) hn
 have hlow : ∀ b, b < lo → ∀ n c, v ≠ .slice (some ⟨b, 0, none⟩) n c := fun b hb n c e => by
  rcases hblk with ⟨z, _⟩ | ⟨b2, z, z2, _⟩
  ·rw [z] at e; cases e
  ·rw [z] at e
   simp only [Value.slice.injEq, Option.some.injEq, Addr.mk.injEq] at e
   omega
 have hRb := hI.lt
 have hb'' : h.length + 1 ≤ b' := by simpa using hb'
 have hL4' : h.length + 1 ≤ H4.length := by simpa using hL4
 refine ⟨v, hv, ?_, b', _, H4, f4, happ, hf1, hf2, fun b o hb ho => hbase b o (hlow b hb) ho, by omega, ?_⟩
 ·rcases hblk with ⟨z, _⟩ | ⟨b2, z, z2, _⟩
  ·exact .inl z
  ·exact .inr ⟨b2, _, z, z2⟩
 refine ⟨set_self (hbase _ _ (hlow _ hRb) hI.at_), by simp [hI.len], hRb, by simp; omega, fun j hj => ?_, fun j j' b n c n' c' hne e1 e2 => ?_⟩
 ·rw [readyL_snoc]
  by_cases e : j = lastW r
  ·rw [e, if_pos rfl]
   refine ⟨_, List.getElem?_set_self (by rw [hI.len]; exact hl), ws ++ [w], ?_, fun q hq => ?_⟩
   ·have : OwnS H4 lo (.slice (some ⟨b', 0, none⟩) ((readyL R (lastW r)).length + 1) ((readyL R (lastW r)).length + 1)) (readyL R (lastW r) ++ [r]).length (ws ++ [w]) 34 1 := by simpa using hown
    exact this.keep fun b s z1 z2 => set_ne z2 (by simp at z1; omega)
   ·have hwl : ws.length = (readyL R (lastW r)).length := by have := hown0.1; omega
    simp at hq
    by_cases eq : q < (readyL R (lastW r)).length
    ·obtain ⟨w', r1, r2⟩ := hrows q eq
     refine ⟨w', by rw [List.getElem?_append_left (by omega)]; exact r1, ?_⟩
     rw [nthR_snoc, if_pos eq]; exact r2
    ·have eq2 : q = (readyL R (lastW r)).length := by omega
     refine ⟨w, by rw [List.getElem?_append_right (by omega), hwl, eq2]; simp, ?_⟩
     rw [nthR_snoc, if_neg eq, if_pos eq2]; exact hw
  ·rw [if_neg (Ne.symm e)]
   obtain ⟨v2, q1, q2⟩ := hI.each j hj
   refine ⟨v2, by rw [List.getElem?_set_ne (Ne.symm e)]; exact q1, q2.keep fun b n c z1 z2 o z3 => set_ne (hbase b o (fun n' c' z4 => ?_) z3) (by omega)⟩
   rw [z1] at q1
   rw [z4] at hv
   exact hI.apart j (lastW r) b n c n' c' e q1 hv
 ·have hnew : ∀ j b n c, j ≠ lastW r → rv[j]? = some (.slice (some ⟨b, 0, none⟩) n c) → b < h.length := fun j b n c hj hz => by
   have hjl := (List.getElem?_eq_some_iff.1 hz).1
   rw [hI.len] at hjl
   obtain ⟨v2, q1, q2⟩ := hI.each j hjl
   rw [hz] at q1
   obtain rfl := Option.some.inj q1
   rcases q2.blk with ⟨z, _⟩ | ⟨b2, z, _, z2⟩
   ·cases z
   ·simp only [Value.slice.injEq, Option.some.injEq, Addr.mk.injEq] at z
    omega
  by_cases ej : j = lastW r
  ·rw [ej, List.getElem?_set_self (by rw [hI.len]; exact hl)] at e1
   simp only [Option.some.injEq, Value.slice.injEq, Addr.mk.injEq] at e1
   rw [List.getElem?_set_ne (by omega)] at e2
   have := hnew j' b n' c' (by omega) e2
   omega
  ·rw [List.getElem?_set_ne (Ne.symm ej)] at e1
   by_cases ej' : j' = lastW r
   ·rw [ej', List.getElem?_set_self (by rw [hI.len]; exact hl)] at e2
    simp only [Option.some.injEq, Value.slice.injEq, Addr.mk.injEq] at e2
    have := hnew j b n c ej e1
    omega
   ·rw [List.getElem?_set_ne (Ne.symm ej')] at e2
    exact hI.apart j j' b n c n' c' hne e1 e2
end Go.Proofs.Ytjlkndkedknocaa
namespace Go.Ai
theorem DC.kept {E : Env} (hS : SumsKept E) {f : FuncId} {args : List Value} {st : St} {Q : Out → St → Prop} (h : DC E f args st Q) : DC E f args st fun o st' => Q o st' ∧ Kept st st' := by
 obtain ⟨o, st', ⟨n, h1⟩, h2⟩ := h
 exact ⟨o, st', ⟨n, h1⟩, h2, callKept_of hS (exec_kept hS n) _ _ _ _ _ h1⟩
end Go.Ai
namespace Go.Proofs.Ytjlkndkedknocaa
open Go Go.Ai
attribute [local instance] Classical.propDecidable
variable {E : Env} (hE : OE E)
include hE
end Go.Proofs.Ytjlkndkedknocaa
namespace Go.Ai
theorem Sub.rdO {h h' : List O} (hs : Sub h h') {b i : Nat} {v : Value} (hr : rdO h[b]? i = some v) : rdO h'[b]? i = some v := by
 rw [← rd_def] at hr ⊢
 exact hs.rd hr
end Go.Ai
namespace Go.Proofs.Ytjlkndkedknocaa
open Go Go.Ai
attribute [local instance] Classical.propDecidable
def InvI (h : List O) (lo n : Nat) (A : List (List Int)) (i : Nat) (vs : List Value) : Prop :=
 ∀ q, q < i → ∃ b, vs[q]? = some (.slice (some ⟨b, 0, none⟩) n n) ∧ lo ≤ b ∧ h[b]? = some (.cells (intsC (invL (nthR A q))) 3 (some 0))
variable {E : Env} (hE : OE E)
include hE
end Go.Proofs.Ytjlkndkedknocaa
namespace Go.Proofs.Ytjlkndkedknocaa
open Go Go.Ai
attribute [local instance] Classical.propDecidable
theorem RdI.nil {hb h : List O} {lo Rb gens : Nat} (h1 : h[Rb]? = some (.cells (List.replicate (gens + 1) (.slice none 0 0)) 48 (some 0))) (h2 : Rb < lo) (h3 : lo ≤ h.length) : RdI hb h lo Rb gens [] (List.replicate (gens + 1) (.slice none 0 0)) := by
 refine ⟨h1, by simp, h2, h3, fun j hj => ⟨.slice none 0 0, by rw [List.getElem?_replicate, if_pos hj], [], OwnS.nil _ _ _ _, fun q hq => by simp [readyL] at hq⟩, fun j j' b n c n' c' _ e _ => ?_⟩
 rw [List.getElem?_replicate] at e
 split at e
 ·cases e
 ·cases e
variable {E : Env} (hE : OE E)
include hE
end Go.Proofs.Ytjlkndkedknocaa
namespace Go.Proofs.Ytjlkndkedknocaa
open Go Go.Ai
attribute [local instance] Classical.propDecidable
def FewA (P g : Nat) : Prop := ∀ i, i < g → P ^ (i + 1) ≤ 2000000
noncomputable def genN (G : Dg) : Nat := arC G + G.L.toNat
noncomputable def cntD (G : Dg) (k : Nat) : Nat := cntV k (permL k) (relL G) (genN G) []
noncomputable def countA (n : Nat) (x : Nat → Nat → Int) (s : Nat → Int) (L k : Int) : Int × Int :=
 if kindD n x s L ≠ 0 then (0, kindD n x s L) else if ¬ (1 ≤ k ∧ k ≤ 6) then (0, 1) else if ¬ FewA (permL k.toNat).length (genN (dgOf n x s L)) then (0, 2) else (cntD (dgOf n x s L) k.toNat, 0)
variable {E : Env} (hE : OE E)
include hE
end Go.Proofs.Ytjlkndkedknocaa
namespace Go.Ai
attribute [local instance] Classical.propDecidable
def KnownL (w : List Int) (k : Int) : Prop := ∀ j, j < w.length → nth w j ≤ k ∧ -(nth w j) ≤ k
def OkC (n : Nat) (rels A : List (List Int)) : Prop := ∀ i, i < rels.length → lastW (nthR rels i) = A.length → TrivL A (A.map invL) (nthR rels i) n
noncomputable def cntC (n : Nat) (P rels : List (List Int)) : Nat → List (List Int) → Nat
 | 0, A => if OkC n rels A then 1 else 0
 | m + 1, A => if OkC n rels A then sumNat (fun q => cntC n P rels m (A ++ [nthR P q])) P.length else 0
end Go.Ai
namespace Go.Proofs.Ytjlkndkedknocaa
open Go Go.Ai
attribute [local instance] Classical.propDecidable
variable {E : Env} (hE : OE E)
include hE
end Go.Proofs.Ytjlkndkedknocaa
namespace Go.Ai
variable {E : Env}
@[simp] theorem quietOp_strIdx {a b} : quietOp (.strIdx a b) = true := rfl
@[simp] theorem quietOp_strSl {a b c} : quietOp (.strSl a b c) = true := rfl
@[simp] theorem quietOp_strOf {a} : quietOp (.strOf a) = true := rfl
variable {e : Operand → Value} {st : St}
@[simp] theorem step_strIdx {x i} : step (.strIdx x i) e st = valS (strIdxV (e x) (e i)) st := rfl
@[simp] theorem step_strSl {x lo hi} : step (.strSl x lo hi) e st = valS (strSlV (e x) (lo.map e) (hi.map e)) st := rfl
@[simp] theorem step_strOf {x} : step (.strOf x) e st = valS (strOfV st.h (e x)) st := rfl
@[simp] theorem fpOf_strIdx {a b} : fpOf (.strIdx a b) e st = {} := rfl
@[simp] theorem fpOf_strSl {a b c} : fpOf (.strSl a b c) e st = {} := rfl
@[simp] theorem fpOf_strOf {a} : fpOf (.strOf a) e st = { r := blk (e a) } := rfl
@[simp] theorem blk_str {s} : blk (.string s) = [] := rfl
@[simp] theorem binV_strEq {a b} : binV .eql (.string a) (.string b) = some (.bool (a.toList == b.toList)) := rfl
@[simp] theorem binV_strNe {a b} : binV .neq (.string a) (.string b) = some (.bool (!(a.toList == b.toList))) := rfl
@[simp] theorem lenV_str {h s} : lenV h 1 (.string s) = some (.int .i64 s.size) := rfl
def tkB (T s : ByteArray) (pos : Nat) : Bool := decide (pos + s.size ≤ T.size) && ((T.extract pos (pos + s.size)).toList == s.toList)
end Go.Ai
namespace Go.Proofs.Ytjlkndkedknocaa
open Go Go.Ai
attribute [local instance] Classical.propDecidable
variable {E : Env} (hE : OE E)
include hE
omit hE in
def numB (T : ByteArray) (pos n : Nat) : Bool :=
 decide (pos < T.size) && decide (n < 10) && (match strIdxV (.string T) (.int .i64 pos) with | some (.int .u8 c) => c == 48 + n | _ => false) &&
 (!decide (pos + 1 < T.size) || match strIdxV (.string T) (.int .i64 ((pos : Int) + 1)) with | some (.int .u8 c) => decide (c < 48 ∨ 57 < c) | _ => false) &&
 ((ByteArray.empty.push (UInt8.ofNat (48 + (n : Int)).toNat)).toList == (T.extract pos (pos + 1)).toList)
end Go.Proofs.Ytjlkndkedknocaa
namespace Go.Proofs.Ytjlkndkedknocaa
open Go Go.Ai
def textB : ByteArray := ByteArray.mk (List.toArray (43 :: 32 :: 51 :: 32 :: 49 :: 32 :: 52 :: 32 :: 48 :: 59 :: 32 :: 43 :: 32 :: 53 :: 32 :: 51 :: 32 :: 48 :: 32 :: 50 :: 59 :: 32 :: 43 :: 32 :: 49 :: 32 :: 53 :: 32 :: 50 :: 32 :: 52 :: 32 :: 124 :: 32 :: 48 :: []))
def rowT : List (List Int) := [[3, 1, 4, 0], [5, 3, 0, 2], [1, 5, 2, 4]]
def xT : Nat → Nat → Int := fun i j => nth (nthR rowT i) j
def sT : Nat → Int := fun _ => 1
set_option maxRecDepth 100000
def cellQ (i q : Nat) : List Value := [.int .i64 (if 0 < q then xT i 0 else 0), .int .i64 (if 1 < q then xT i 1 else 0), .int .i64 (if 2 < q then xT i 2 else 0), .int .i64 (if 3 < q then xT i 3 else 0), .int .i64 1]
def cellT : Nat → List Value
 | 0 => []
 | i + 1 => cellT i ++ cellQ i 4
attribute [local instance] Classical.propDecidable
def ParP (h0 : List O) (o : Out) (st' : St) : Prop := ∃ a c, o = .ret (.tuple #[dV a 3 c 0, .int .i64 0]) ∧ Sub h0 st'.h ∧ h0.length ≤ st'.fl ∧ CrossP st'.h a 3 xT sT
def rdrC (pos : Int) (ok : Bool) : List Value := [.string textB, .int .i64 pos, .bool ok]
variable {E : Env} (hE : OE E)
include hE
end Go.Proofs.Ytjlkndkedknocaa
namespace Go.Proofs.Ytjlkndkedknocaa
open Go Go.Ai
theorem c86_0a : cmpT 77 (lcA 86 0) = some ra86_0 := by kernel_rfl
theorem c86_0b : cmpT 77 (lcB 86 0) = some rl86_0 := by kernel_rfl
theorem c219_0a : cmpT 46 (lcA 219 0) = some ra219_0 := by kernel_rfl
theorem c219_0b : cmpT 46 (lcB 219 0) = some rl219_0 := by kernel_rfl
theorem E0_cmp : E0.cmp = cmpT := by unfold E0; rfl
theorem E0_S (f : FuncId) : E0.S f = none := by unfold E0; rfl
theorem E0_OE : OE E0 := ⟨fun f rf h => h, fun f h _ => E0_S f, fun k => E0_S _, by rw [E0_cmp]; exact c86_0a, by rw [E0_cmp]; exact c86_0b, by rw [E0_cmp]; exact c219_0a, by rw [E0_cmp]; exact c219_0b⟩
end Go.Proofs.Ytjlkndkedknocaa
namespace Go.Proofs.Ytjlkndkedknocaa
open Go Go.Ai
def seenN : Option (Out × St) → Option Int
 | some (.ret (.int _ n), _) => some n
 | _ => none
noncomputable def trefH : List O := [.cells (cellT 3) 107 (some 0)]
end Go.Proofs.Ytjlkndkedknocaa
namespace Go.Ai
end Go.Ai
namespace Go.Proofs.Ytjlkndkedknocaa
open Go Go.Ai
attribute [local instance] Classical.propDecidable
def finT (G : Dg) (a : Nat) : Nat × Nat := (G.T a 2, G.T a 3)
def finL (G : Dg) : List (Nat × Nat) := (List.range (2 * G.n)).map (finT G)
def walkM (h0 : List O) (pl : Nat) (i : Int) (G : Dg) : List O :=
 (h0 ++ [.cells [.pointer (some ⟨pl, 0, none⟩)] 155 (some 0), .cells [.int .i64 i] 3 (some 0), .cells (cellsL (finL G)) 72 (some 0), .cells [.slice (some ⟨h0.length + 2, 0, none⟩) (2 * G.n) (2 * G.n)] 215 (some 0)]) ++ List.replicate (1 + 2 * G.n) .dead
def walkV (h0 : List O) : Value := .func (.func 212) #[] #[.pointer (some ⟨h0.length + 1, 0, none⟩), .pointer (some ⟨h0.length + 3, 0, none⟩), .pointer (some ⟨h0.length, 0, none⟩)]
structure WkI (h0 : List O) (pl : Nat) (i : Int) (N mb : Nat) (es : List MapEntry) (fin : Nat → Nat × Nat) (seen : List Nat) (H : List O) (e : List (Nat × Nat)) : Prop where
 sub : Sub h0 H
 b0 : AtB H h0.length (.cells [.pointer (some ⟨pl, 0, none⟩)] 155 (some 0))
 b1 : AtB H (h0.length + 1) (.cells [.int .i64 i] 3 (some 0))
 b2 : AtB H (h0.length + 2) (.cells (cellsL e) 72 (some 0))
 b3 : AtB H (h0.length + 3) (.cells [.slice (some ⟨h0.length + 2, 0, none⟩) N N] 215 (some 0))
 b4 : AtB H (h0.length + 4) (.iter (some mb) N seen N)
 len : H.length = h0.length + 5 + seen.length
 own : ∀ b o, h0.length + 5 ≤ b → H[b]? = some o → o.ro = false
 el : e.length = N
 met : ∀ y ∈ es, y.born ∈ seen → ∀ a : Nat, y.val = .int .i64 a → e[a]? = some (fin a)
 nd : seen.Nodup
 mem : ∀ b ∈ seen, ∃ y ∈ es, y.born = b
variable {E : Env} (hE : OE E)
include hE
end Go.Proofs.Ytjlkndkedknocaa
namespace Go.Ai
end Go.Ai
namespace Go.Proofs.Ytjlkndkedknocaa
open Go Go.Ai
attribute [local instance] Classical.propDecidable
variable {E : Env} (hE : OE E)
include hE
end Go.Proofs.Ytjlkndkedknocaa
namespace Go.Proofs.Ytjlkndkedknocaa
open Go Go.Ai
attribute [local instance] Classical.propDecidable
noncomputable def wordP (G : Dg) (x : Nat × Nat) : List Int := if x.2 = 0 then [gen G (G.X x.1 1) * G.s x.1] else []
noncomputable def ownP (G : Dg) (k : Int) (x : Nat × Nat) : Int := if x.2 = 0 ∧ nth (cpL G) (G.X x.1 1) = k then G.s x.1 else 0
def RndP (h : List O) (f base k N p8 p11 : Nat) (ws : List Int) (sm : Int) (st' : St) : Prop :=
 ∃ h' f' ov', joined ⟨h, f⟩ st' = ⟨h', f'⟩ ∧ base ≤ f' ∧ f' ≤ k ∧ h'[p8]? = some (.cells [ov'] 34 (some 0)) ∧ h'[p11]? = some (.cells [.int .i64 sm] 3 (some 0)) ∧
  OwnT h' N ov' ws.length (intsC ws) 3 1 ∧ h.length ≤ h'.length ∧ ∀ (b : Nat) (o : O), b < N → h[b]? = some o → b ≠ p8 → b ≠ p11 → h'[b]? = some o
variable {E : Env} (hE : OE E)
include hE
end Go.Proofs.Ytjlkndkedknocaa
namespace Go.Proofs.Ytjlkndkedknocaa
open Go Go.Ai
attribute [local instance] Classical.propDecidable
noncomputable def perA (G : Dg) (a : Nat) : Nat := if h : ∃ P, (0 < P ∧ itr (nx G) a P = a ∧ P ≤ 2 * G.n) ∧ ∀ t, 0 < t → t < P → itr (nx G) a t ≠ a then h.choose else 1
noncomputable def wordT (G : Dg) (a : Nat) : Nat → List Int
 | 0 => []
 | i + 1 => wordT G a i ++ wordP G (finT G (itr (nx G) a i))
noncomputable def ownT (G : Dg) (k : Int) (a : Nat) : Nat → Int
 | 0 => 0
 | i + 1 => ownT G k a i + ownP G k (finT G (itr (nx G) a i))
variable {E : Env} (hE : OE E)
include hE
end Go.Proofs.Ytjlkndkedknocaa
namespace Go.Ai
def SmallL (ws : List Int) : Prop := ∀ y ∈ ws, -1000 ≤ y ∧ y ≤ 1000
theorem SmallL.nth {ws : List Int} (h : SmallL ws) (i : Nat) : -1000 ≤ nth ws i ∧ nth ws i ≤ 1000 := by
 by_cases hi : i < ws.length
 ·exact h _ (nth_mem hi)
 ·rw [nth_ge (by omega)]; omega
theorem SmallL.app {a b : List Int} (h : SmallL a) (k : SmallL b) : SmallL (a ++ b) := fun y hy => by
 rcases List.mem_append.1 hy with h1 | h1
 ·exact h y h1
 ·exact k y h1
theorem SmallL.rep {n : Nat} {m : Int} (h : -1000 ≤ m ∧ m ≤ 1000) : SmallL (List.replicate n m) := fun y hy => by
 rw [List.mem_replicate] at hy
 rw [hy.2]; exact h
end Go.Ai
namespace Go.Proofs.Ytjlkndkedknocaa
open Go Go.Ai
attribute [local instance] Classical.propDecidable
noncomputable def lonS (G : Dg) (k : Int) : Int := ownT G k (fstA G k).toNat (perA G (fstA G k).toNat)
noncomputable def lonD (G : Dg) (k : Int) : List Int := if 0 ≤ fstA G k then wordT G (fstA G k).toNat (perA G (fstA G k).toNat) ++ List.replicate (lonS G k).toNat (-(merD G k)) ++ List.replicate (-(lonS G k)).toNat (merD G k) else []
def LonP (h0 : List O) (ws : List Int) (v : Value) (st' : St) : Prop := Sub h0 st'.h ∧ h0.length ≤ st'.fl ∧ Ints st'.h v ws
structure LwI (h0 h : List O) (lo p8 p11 : Nat) (sm : Int) (ov : Value) (ws : List Int) : Prop where
 sub : Sub h0 h
 b8 : AtB h p8 (.cells [ov] 34 (some 0))
 b11 : AtB h p11 (.cells [.int .i64 sm] 3 (some 0))
 own : OwnT h lo ov ws.length (intsC ws) 3 1
 small : SmallL ws
 lo_ : lo ≤ h.length
theorem LwI.add {h0 h : List O} {lo p8 p11 : Nat} {sm sm' m : Int} {ov : Value} {ws : List Int} (hI : LwI h0 h lo p8 p11 sm ov ws) (hm : -1000 ≤ m ∧ m ≤ 1000) (l0 : h0.length ≤ p8) (l1 : h0.length ≤ p11) (l8 : p8 < lo) (l11 : p11 < lo) (hne : p8 ≠ p11) (hw : ws.length ≤ 10000) :
  ∃ b' H4, appendV 3 1 8 ov (.slice (some ⟨h.length, 0, none⟩) 1 1) ⟨h ++ [.cells [.int .i64 m] 3 (some 0)], h0.length⟩ = some (.slice (some ⟨b', 0, none⟩) (ws.length + 1) (ws.length + 1), ⟨H4, h0.length⟩) ∧
   H4[p8]? = some (.cells [ov] 34 (some 0)) ∧ H4[p11]? = some (.cells [.int .i64 sm] 3 (some 0)) ∧
   LwI h0 ((H4.set p8 (.cells [.slice (some ⟨b', 0, none⟩) (ws.length + 1) (ws.length + 1)] 34 (some 0))).set p11 (.cells [.int .i64 sm'] 3 (some 0))) lo p8 p11 sm' (.slice (some ⟨b', 0, none⟩) (ws.length + 1) (ws.length + 1)) (ws ++ [m]) := by
 have hread : readSlice (h ++ [.cells [.int .i64 m] 3 (some 0)]) 1 1 (some ⟨h.length, 0, none⟩) = some [.int .i64 m] := by simp [readSlice, rdN_at0]
 have hlo := hI.lo_
 obtain ⟨b', H4, f4, happ, hb', hown, hf1, hf2, hL4, K4⟩ := append_T (fl := h0.length) (c := 1) (bytes := 8) (hI.own.keep (h' := h ++ [.cells [.int .i64 m] 3 (some 0)]) fun b s _ _ e => app_of e _) hread (by simp) (by simp) (by simp; omega) (by simp only [roomMax]; omega) (by omega)
 obtain rfl : f4 = h0.length := by omega
 have k8 := K4 _ _ (app_of hI.b8 _) (.inl l8)
 have k11 := K4 _ _ (app_of hI.b11 _) (.inl l11)
 refine ⟨b', H4, happ, k8, k11, fun b o hb => ?_, set_ne (set_self k8) hne, set_self (set_ne k11 (Ne.symm hne)), ?_, hI.small.app (fun y hy => by simp at hy; rw [hy]; exact hm), by simp at hL4 ⊢; omega⟩
 ·have := (List.getElem?_eq_some_iff.1 hb).1
  exact set_ne (set_ne (K4 _ _ (app_of (hI.sub b o hb) _) (.inl (by omega))) (by omega)) (by omega)
 ·have : OwnT H4 lo (.slice (some ⟨b', 0, none⟩) (ws.length + 1) (ws.length + 1)) (ws ++ [m]).length (intsC (ws ++ [m])) 3 1 := by simpa [intsC] using hown
  exact this.keep fun b s e1 e2 e3 => set_ne (set_ne e3 (by omega)) (by omega)
variable {E : Env} (hE : OE E)
include hE
end Go.Proofs.Ytjlkndkedknocaa
namespace Go.Proofs.Ytjlkndkedknocaa
open Go Go.Ai
noncomputable def GT : Dg := dgOf 3 xT sT 0
def outT : List (Nat × Nat) := [(1, 2), (0, 1), (2, 2), (1, 1), (0, 2), (2, 1)]
def inT : List (Nat × Nat) := [(0, 3), (2, 0), (1, 3), (0, 0), (2, 3), (1, 0)]
def relsT : List (List Int) := [[-1, 2, 1, -3], [-2, 3, 2, -1], [-3, 1, 3, -2]]
end Go.Proofs.Ytjlkndkedknocaa
namespace Go.Proofs.Ytjlkndkedknocaa
open Go Go.Ai
def trivB (A B : List (List Int)) (w : List Int) (n : Nat) : Bool := (List.range n).all fun i => actW A B w i == (i : Int)
def goodB (n : Nat) (rels A : List (List Int)) : Bool := (List.range (readyL rels A.length).length).all fun i => trivB A (A.map invL) (nthR (readyL rels A.length) i) n
def cntB (n : Nat) (P rels : List (List Int)) : Nat → List (List Int) → Nat
 | 0, _ => 1
 | m + 1, im => sumNat (fun q => bif goodB n rels (im ++ [nthR P q]) then cntB n P rels m (im ++ [nthR P q]) else 0) P.length
end Go.Proofs.Ytjlkndkedknocaa
namespace Go.Proofs.Ytjlkndkedknocaa
open Go Go.Ai
attribute [local instance] Classical.propDecidable
structure WE (E : Env) : Prop where
 oe : OE E
 kept : SumsKept E
 walk : ∀ (h : List O) (pl n : Nat) (x : Nat → Nat → Int) (s : Nat → Int) (L i : Int), LnkP h pl n x s L → Snd n x s L → DR E 148 [.pointer (some ⟨pl, 0, none⟩), .int .i64 i] ⟨h, h.length⟩ (.ret (walkV h)) ⟨walkM h pl i (dgOf n x s L), h.length⟩
noncomputable def E1 : Env := withK E0 4 148
variable {E : Env} (hE : OE E)
include hE
end Go.Proofs.Ytjlkndkedknocaa
namespace Go.Proofs.Ytjlkndkedknocaa
open Go Go.Ai
attribute [local instance] Classical.propDecidable
end Go.Proofs.Ytjlkndkedknocaa
namespace Go.Ai
end Go.Ai
namespace Go.Proofs.Ytjlkndkedknocaa
open Go Go.Ai
attribute [local instance] Classical.propDecidable
variable {E : Env} (hE : OE E)
include hE
end Go.Proofs.Ytjlkndkedknocaa
namespace Go.Proofs.Ytjlkndkedknocaa
open Go Go.Ai
attribute [local instance] Classical.propDecidable
def CpI (h : List O) (lo : Nat) (A : List (List Int)) (i : Nat) (vs : List Value) : Prop :=
 ∀ q, q < i → ∃ w, vs[q]? = some w ∧ ((nthR A q = [] ∧ w = .slice none 0 0) ∨ ∃ b, w = .slice (some ⟨b, 0, none⟩) (nthR A q).length (nthR A q).length ∧ lo ≤ b ∧ h[b]? = some (.cells (intsC (nthR A q)) 3 (some 1)))
end Go.Proofs.Ytjlkndkedknocaa
namespace Go.Ai
end Go.Ai
namespace Go.Proofs.Ytjlkndkedknocaa
open Go Go.Ai
attribute [local instance] Classical.propDecidable
variable {E : Env} (hE : OE E)
include hE
structure CtI (h : List O) (n gens : Nat) (P rels : List (List Int)) (m : Nat) (A : List (List Int)) (va vp vr : Value) : Prop where
 mA : Mat h va A
 mP : Mat h vp P
 mR : Mat h vr rels
 len : A.length + m = gens
 perm : ∀ k, k < A.length → PermL n (nthR A k)
end Go.Proofs.Ytjlkndkedknocaa
namespace Go.Ai
def insP (m : Int) (p : List Int) (i : Nat) : List Int := p.take i ++ [m] ++ p.drop i
def insA (m : Int) (p : List Int) (i : Nat) : List (List Int) := (List.range i).map (insP m p)
def insQ (m : Int) (P : List (List Int)) (q : Nat) : List (List Int) := (P.take q).flatMap fun p => insA m p (p.length + 1)
def permR : Nat → List (List Int)
 | 0 => [[]]
 | n + 1 => insQ n (permR n) (permR n).length
theorem OwnT.keepB {h h' : List O} {lo k : Nat} {v : Value} {cs : List Value} {el : TypeId} {size : Nat} (ho : OwnT h lo v k cs el size) (hk : ∀ b s, lo ≤ b → h[b]? = some (.cells cs el (some s)) → h'[b]? = some (.cells cs el (some s))) : OwnT h' lo v k cs el size := ho.keep fun b s _ h2 h3 => hk b s h2 h3
theorem OwnT.lo {h : List O} {lo k : Nat} {v : Value} {cs : List Value} {el : TypeId} (ho : OwnT h lo v k cs el 1) {i : Nat} (hi : i ≤ k) (hc : k < 1000000) :
  ∃ a c, sliceV h 1 v none (some (.int .i64 i)) none = some (.slice a i c) ∧ readSlice h 1 i a = some (cs.take i) := by
 have hl := ho.len
 have h1 : (i : Int) ≤ k := by omega
 rcases ho with ⟨rfl, rfl, rfl⟩ | ⟨_, ⟨rfl, rfl⟩ | ⟨b, s, rfl, h2, h3, h4⟩⟩
 ·obtain rfl : i = 0 := by omega
  exact ⟨some ⟨0, 0, some 0⟩, 0, by simp [emptyS, sliceV, mxB, hiB, loB, bound, sliceA], by simp [readSlice]⟩
 ·obtain rfl : i = 0 := by omega
  exact ⟨none, 0, by simp [sliceV, mxB, hiB, loB, bound, sliceA], by simp [readSlice]⟩
 ·have ht : tagOk h 1 b = true := by
   simp only [tagOk, h3]
   rcases h4 with rfl | rfl <;> rfl
  refine ⟨some ⟨b, 0, none⟩, k, by simp [sliceV, mxB, hiB, loB, bound, sliceA, ht, h1, hi], ?_⟩
  simp only [readSlice]
  split
  ·rename_i h0
   have : i = 0 := by omega
   rw [this]; rfl
  ·simp [rdN, h3]
   omega
theorem OwnT.hi {h : List O} {lo k : Nat} {v : Value} {cs : List Value} {el : TypeId} (ho : OwnT h lo v k cs el 1) {i : Nat} (hi : i ≤ k) (hc : k < 1000000) :
  ∃ a c, sliceV h 1 v (some (.int .i64 i)) none none = some (.slice a (k - i) c) ∧ readSlice h 1 (k - i) a = some (cs.drop i) := by
 have hl := ho.len
 have h1 : (i : Int) ≤ k := by omega
 rcases ho with ⟨rfl, rfl, rfl⟩ | ⟨_, ⟨rfl, rfl⟩ | ⟨b, s, rfl, h2, h3, h4⟩⟩
 ·obtain rfl : i = 0 := by omega
  exact ⟨some ⟨0, 0, some 0⟩, 0, by simp [emptyS, sliceV, mxB, hiB, loB, bound, sliceA], by simp [readSlice]⟩
 ·obtain rfl : i = 0 := by omega
  exact ⟨none, 0, by simp [sliceV, mxB, hiB, loB, bound, sliceA], by
   have : cs = [] := List.length_eq_zero_iff.1 (by omega)
   simp [readSlice, this]⟩
 ·have ht : tagOk h 1 b = true := by
   simp only [tagOk, h3]
   rcases h4 with rfl | rfl <;> rfl
  refine ⟨some (if k = i then ⟨b, 0, none⟩ else ⟨b, 0 + i * 1, none⟩), k - i, by simp [sliceV, mxB, hiB, loB, bound, sliceA, ht, h1, hi], ?_⟩
  by_cases hki : k = i
  ·rw [if_pos hki]
   have : cs.drop i = [] := by rw [List.drop_eq_nil_iff]; omega
   simp [readSlice, this, hki]
  ·rw [if_neg hki]
   simp only [readSlice]
   rw [if_neg (by omega)]
   simp [rdN, h3]
   refine ⟨by omega, ?_⟩
   rw [List.take_of_length_le (by simp; omega)]
theorem append_U {H : List O} {lo k n fl c : Nat} {v : Value} {cs new : List Value} {el : TypeId} {bytes : Nat} {xb : Option Addr}
  (ho : OwnT H lo v k cs el 1) (hx : readSlice H 1 n xb = some new) (hnew : new.length = n) (hone : new.all one1 = true) (hlo : lo ≤ H.length) (hroom : (k + n) * bytes ≤ roomMax) (hfl : fl ≤ lo) :
  ∃ v' H', appendV el 1 bytes v (.slice xb n c) ⟨H, fl⟩ = some (v', ⟨H', fl⟩) ∧ OwnT H' lo v' (k + n) (cs ++ new) el 1 ∧ H.length ≤ H'.length ∧ ∀ (b : Nat) (o : O), H[b]? = some o → b < lo → H'[b]? = some o := by
 rcases Nat.eq_zero_or_pos n with rfl | hn
 ·have hnn : new = [] := List.length_eq_zero_iff.1 hnew
  subst hnn
  obtain ⟨a, hv, _⟩ := ho.look
  refine ⟨v, H, ?_, by simpa using ho, Nat.le_refl _, fun b o e _ => e⟩
  rw [hv]
  simp [appendV, hx, appendCells]
 ·obtain ⟨b', H', f', h1, h2, h3, h4, h5, h6, h7⟩ := append_T (fl := fl) (c := c) (bytes := bytes) ho hx (by omega) hone hlo hroom hn
  obtain rfl : f' = fl := by omega
  exact ⟨_, H', h1, h3, h6, fun b o e hb => h7 b o e (.inl hb)⟩
end Go.Ai
namespace Go.Proofs.Ytjlkndkedknocaa
open Go Go.Ai
attribute [local instance] Classical.propDecidable
def PermP (h : List O) (lo : Nat) (v : Value) (A : List (List Int)) : Prop :=
 ∃ vs, OwnS h lo v A.length vs 34 1 ∧ ∀ q, q < A.length → ∃ w, vs[q]? = some w ∧ OwnT h lo w (nthR A q).length (intsC (nthR A q)) 3 1
theorem OwnT.low {h : List O} {lo lo' k : Nat} {v : Value} {cs : List Value} {el : TypeId} {size : Nat} (ho : OwnT h lo v k cs el size) (hl : lo' ≤ lo) : OwnT h lo' v k cs el size := by
 rcases ho with h1 | ⟨h0, h1 | ⟨b, s, h1, h2, h3, h4⟩⟩
 ·exact .inl h1
 ·exact .inr ⟨h0, .inl h1⟩
 ·exact .inr ⟨h0, .inr ⟨b, s, h1, by omega, h3, h4⟩⟩
theorem PermP.low {h : List O} {lo lo' : Nat} {v : Value} {A : List (List Int)} (k : PermP h lo v A) (hl : lo' ≤ lo) : PermP h lo' v A := by
 obtain ⟨vs, ⟨h0, h1⟩, hr⟩ := k
 refine ⟨vs, ⟨h0, ?_⟩, fun q hq => ?_⟩
 ·rcases h1 with h1 | ⟨b, s, h1, h2, h3⟩
  ·exact .inl h1
  ·exact .inr ⟨b, s, h1, by omega, h3⟩
 ·obtain ⟨w, r1, r2⟩ := hr q hq
  exact ⟨w, r1, OwnT.low r2 hl⟩
theorem PermP.post {h0 h : List O} {f lo : Nat} {v : Value} {A : List (List Int)} (k : PermP h lo v A) (hl : h0.length ≤ lo) (hs : Sub h0 h) (hf : h0.length ≤ f) :
  pairQ (back ⟨h0, h0.length⟩ (.ret v) ⟨h, f⟩) fun o st' => ∃ v, o = .ret v ∧ Sub h0 st'.h ∧ h0.length ≤ st'.fl ∧ PermP st'.h h0.length v A := by
 unfold pairQ back
 split
 ·rename_i hc
  refine ⟨v, rfl, Sub.refl _, Nat.le_refl _, ?_⟩
  obtain ⟨vs, ⟨k0, k1⟩, _⟩ := k
  rcases k1 with ⟨rfl, h1⟩ | ⟨b, s, rfl, h2, h3, _⟩
  ·have : A = [] := List.length_eq_zero_iff.1 h1
   subst this
   exact ⟨[], OwnS.nil _ _ _ _, fun q hq => by simp at hq⟩
  ·have hz : A.length = 0 := by
    simp [Out.scalar, scalar, flat1] at hc
    exact flat_len rfl hc.1
   have : A = [] := List.length_eq_zero_iff.1 hz
   subst this
   simp [Out.scalar, scalar, flat1, flat] at hc
 ·exact ⟨v, rfl, hs, hf, k.low hl⟩
variable {E : Env} (hE : OE E)
include hE
end Go.Proofs.Ytjlkndkedknocaa
namespace Go.Proofs.Ytjlkndkedknocaa
open Go Go.Ai
attribute [local instance] Classical.propDecidable
def facI (k : Nat) : Nat := if k ≤ 1 then 1 else if k = 2 then 2 else 6
def nthJ (n i : Nat) : Nat := n / facI (3 - i) % (4 - i)
def nthX (n : Nat) : Nat → List Nat
 | 0 => [0, 1, 2, 3]
 | i + 1 => (nthX n i).take (nthJ n i) ++ (nthX n i).drop (nthJ n i + 1)
def nthP (n i : Nat) : Nat := (nthX n i).getD (nthJ n i) 0
theorem nthJ_lt (n : Nat) {i : Nat} (hi : i < 4) : nthJ n i < 4 - i := Nat.mod_lt _ (by omega)
theorem nthX_len (n : Nat) : ∀ i, i ≤ 4 → (nthX n i).length = 4 - i := by
 intro i
 induction i with
 | zero => intro _; rfl
 | succ i ih =>
  intro hi
  have h1 := ih (by omega)
  have h2 := nthJ_lt n (i := i) (by omega)
  simp [nthX, h1]
  omega
theorem nthP_all : ∀ n, n < 24 → (∀ a, a < 4 → nthP n a < 4) ∧ ∀ a, a < 4 → ∀ b, b < 4 → nthP n a = nthP n b → a = b := by decide +kernel
theorem nthP_perm {n : Nat} (hn : n < 24) : PermN 4 (nthP n) := ⟨(nthP_all n hn).1, fun a b ha hb e => (nthP_all n hn).2 a ha b hb e⟩
theorem nthP_be : ∀ r, r < 2 → ∀ i, i < 4 → nthP (7 * r) i = beT r i := by decide +kernel
variable {E : Env} (hE : OE E)
include hE
theorem nth_ {h : List O} {n : Nat} (hn : n < 24) : DR E 106 [.int .i64 n] ⟨h, h.length⟩ (.ret (permW (nthP n))) ⟨h, h.length⟩ := by
 refine hE.fn (body := rb106) rfl ?_
 unfold rb106
 obtain ⟨z, hz⟩ : ∃ z, z = [Value.int .i64 0, .int .i64 0, .int .i64 0, .int .i64 0] := ⟨_, rfl⟩
 obtain ⟨H, hH⟩ : ∃ H, H = h ++ [O.cells z 96 (some 0), O.cells [.int .i64 0, .int .i64 1, .int .i64 2, .int .i64 3] 3 (some 0), O.cells z 96 (some 0)] := ⟨_, rfl⟩
 have b0 : H[h.length]? = some (O.cells z 96 (some 0)) := by rw [hH, app_at0]; rfl
 have b1 : H[h.length + 1]? = some (O.cells [.int .i64 0, .int .i64 1, .int .i64 2, .int .i64 3] 3 (some 0)) := by rw [hH, app_at]; rfl
 have b2 : H[h.length + 2]? = some (O.cells z 96 (some 0)) := by rw [hH, app_at]; rfl
 have lH : H.length = h.length + 3 := by rw [hH]; simp
 have o1 : OwnT H (h.length + 1) (.slice (some ⟨h.length + 1, 0, none⟩) 4 4) 4 (natsC (nthX n 0)) 3 1 := .inr ⟨by simp [natsC, nthX], .inr ⟨_, _, rfl, Nat.le_refl _, b1, .inl rfl⟩⟩
 have hHz := hH
 rw [hz] at hHz
 simp [List.append_assoc, ↓← hHz]
 refine DW_loop (fun kk fr st => ∃ (i : Nat) (h' : List O) (v : Value) (cs : List Value), i + kk = 4 ∧ st = ⟨h', h.length⟩ ∧ h'[h.length]? = some (.cells z 96 (some 0)) ∧ h'[h.length + 2]? = some (.cells cs 96 (some 0)) ∧ cs.length = 4 ∧ (∀ j, j < i → cs[j]? = some (.int .i64 (nthP n j))) ∧ (∃ lo, OwnT h' lo v (4 - i) (natsC (nthX n i)) 3 1) ∧
  get fr 0 = .int .i64 n ∧ get fr 2 = .pointer (some ⟨h.length, 0, none⟩) ∧ get fr 3 = v ∧ get fr 4 = .pointer (some ⟨h.length + 2, 0, none⟩) ∧ get fr 5 = .int .i64 i) ?_ (k := 4) ?_
 ·rintro kk fr st ⟨i, h', v, cs, hik, rfl, k0, k2, hcl, hcs, ⟨lo, ho⟩, g0, g2, g3, g4, g5⟩
  by_cases hi : i < 4
  ·have hi' : (i : Int) < 4 := by omega
   have hw : IntKind.i64.wrap ((i : Int) + 1) = (i : Int) + 1 := by rw [w64_id] <;> omega
   simp [g0, g2, g3, g4, g5, hi']
   refine DW_loop (fun kk' fr st => ∃ (k : Nat), k + kk' = 4 ∧ 1 ≤ k ∧ (k ≤ 1 ∨ k ≤ 3 - i) ∧ st = ⟨h', h.length⟩ ∧
    get fr 0 = .int .i64 n ∧ get fr 2 = .pointer (some ⟨h.length, 0, none⟩) ∧ get fr 3 = v ∧ get fr 4 = .pointer (some ⟨h.length + 2, 0, none⟩) ∧ get fr 5 = .int .i64 i ∧ get fr 6 = .int .i64 (facI k) ∧ get fr 7 = .int .i64 (k + 1 : Nat)) ?_ (k := 3) ?_
   ·clear g0 g2 g3 g4 g5
    rintro kk' fr st ⟨k, hkk, hk1, hk3, rfl, g0, g2, g3, g4, g5, g6, g7⟩
    have hw3 : IntKind.i64.wrap (3 - (i : Int)) = 3 - (i : Int) := by rw [w64_id] <;> omega
    have hw4 : IntKind.i64.wrap (4 - (i : Int)) = ((4 - i : Nat) : Int) := by rw [w64_id] <;> omega
    by_cases hk : k + 1 ≤ 3 - i
    ·have hwk : IntKind.i64.wrap ((k : Int) + 1 + 1) = (k : Int) + 1 + 1 := by rw [w64_id] <;> omega
     have hwf : IntKind.i64.wrap ((facI k : Int) * ((k : Int) + 1)) = (facI (k + 1) : Nat) := by
      rcases (show k = 1 ∨ k = 2 by omega) with rfl | rfl <;> decide
     have hle : (k : Int) + 1 ≤ 3 - (i : Int) := by omega
     simp [g0, g2, g3, g4, g5, g6, g7, hw3, hle, hwf, hwk]
     exact ⟨kk' - 1, by omega, k + 1, by omega, by omega, by omega, rfl, by omega⟩
    ·have hle : ¬ (k : Int) + 1 ≤ 3 - (i : Int) := by omega
     have hfk : facI k = facI (3 - i) := by
      rcases (show i = 0 ∨ i = 1 ∨ i = 2 ∨ i = 3 by omega) with rfl | rfl | rfl | rfl
      ·rw [show k = 3 by omega]
      ·rw [show k = 2 by omega]
      ·rw [show k = 1 by omega]
      ·rw [show k = 1 by omega]; rfl
     obtain ⟨m, hm⟩ : ∃ m, m = 4 - i := ⟨_, rfl⟩
     obtain ⟨X, hX⟩ : ∃ X, X = nthX n i := ⟨_, rfl⟩
     obtain ⟨J, hJ⟩ : ∃ J, J = nthJ n i := ⟨_, rfl⟩
     have hJm : J < m := by rw [hJ, hm]; exact nthJ_lt n hi
     have hXl : X.length = m := by rw [hX, hm]; exact nthX_len n i (by omega)
     have n1 : (natsC (X.take J)).length = J := by simp [natsC]; omega
     have n2 : (natsC (X.drop (J + 1))).length = m - (J + 1) := by simp [natsC, hXl]
     have rm1 : (0 + J) * 8 ≤ roomMax := by simp only [roomMax]; omega
     have rm2 : (0 + J + (m - (J + 1))) * 8 ≤ roomMax := by simp only [roomMax]; omega
     have e5 : 0 + J + (m - (J + 1)) = 4 - (i + 1) := by omega
     rw [← hm, ← hX] at ho
     have hf0 : facI k ≠ 0 := by unfold facI; split <;> (try split) <;> omega
     have hfp : n / facI k ≤ n := Nat.div_le_self _ _
     obtain ⟨Q, hQ⟩ : ∃ Q, Q = n / facI k := ⟨_, rfl⟩
     rw [← hQ] at hfp
     have hquo : binV .quo (.int .i64 n) (.int .i64 (facI k)) = some (.int .i64 (Q : Int)) := by
      rw [binV_quo (by omega), ← Int.ofNat_tdiv, ← hQ, w64_id] <;> omega
     have hrem : binV .rem (.int .i64 Q) (.int .i64 m) = some (.int .i64 J) := by
      rw [binV_rem (by omega), tmod_nat, hJ, hQ, hfk, hm]; rfl
     clear hfk hf0 hfp hQ
     have hJm' : (J : Int) < m := by omega
     obtain ⟨va, hv, hvb⟩ := ho.look
     obtain ⟨vb, vs, rfl, vlo, vat⟩ := hvb (by omega)
     have hel : (natsC X)[J]? = some (.int .i64 (nthP n i)) := by rw [natsC_qn (by omega), hX, hJ]; rfl
     have hi1 : i + 1 ≤ cs.length := by omega
     obtain ⟨cs', hcs'⟩ : ∃ cs', cs' = cs.set i (.int .i64 (nthP n i)) := ⟨_, rfl⟩
     obtain ⟨H1, hH1⟩ : ∃ H1, H1 = h'.set (h.length + 2) (O.cells cs' 96 (some 0)) := ⟨_, rfl⟩
     have k12 : H1[h.length + 2]? = some (O.cells cs' 96 (some 0)) := by rw [hH1]; exact set_self k2
     have K1 : ∀ (b : Nat) (o : O), h'[b]? = some o → b ≠ h.length + 2 → H1[b]? = some o := fun b o hb hne => by rw [hH1]; exact set_ne hb hne
     have l1 : H1.length = h'.length := by rw [hH1]; simp
     have hlen2 := (List.getElem?_eq_some_iff.1 k2).1
     have hH1l : h.length ≤ H1.length := by omega
     have ho1 := ho.keepB (h' := H1) fun b sz _ hb => K1 _ _ hb fun e => by rw [e, k2] at hb; exact absurd (O.cells.inj (Option.some.inj hb)).2.1 (by decide)
     have hone : ∀ l : List Nat, (natsC l).all one1 = true := fun l => by simp [natsC, one1]
     obtain ⟨a1, c1, e1, r1⟩ := ho1.lo (i := J) (by omega) (by omega)
     have htk : (natsC X).take J = natsC (X.take J) := by simp [natsC, List.map_take]
     have hdr : (natsC X).drop (J + 1) = natsC (X.drop (J + 1)) := by simp [natsC, List.map_drop]
     rw [htk] at r1
     obtain ⟨u1, H2, e2, o2, l2, K2⟩ := append_U (H := H1) (lo := H1.length) (k := 0) (n := J) (c := c1) (fl := h.length) (bytes := 8) (v := emptyS) (cs := []) (el := 3) (.inl ⟨rfl, rfl, rfl⟩) r1 n1 (hone _) (Nat.le_refl _) rm1 hH1l
     have ho2 := ho1.keepB (h' := H2) fun b sz _ hb => K2 _ _ hb (List.getElem?_eq_some_iff.1 hb).1
     obtain ⟨a3, c3, e3, r3⟩ := ho2.hi (i := J + 1) (by omega) (by omega)
     rw [hdr] at r3
     obtain ⟨u3, H3, e4, o3, l3, K3⟩ := append_U (c := c3) (fl := h.length) (bytes := 8) o2 r3 n2 (hone _) l2 rm2 hH1l
     have hwJ : IntKind.i64.wrap ((J : Int) + 1) = (J : Int) + 1 := by rw [w64_id] <;> omega
     have hmin2 : min h.length (h.length + 2) = h.length := by omega
     have K13 : ∀ (b : Nat) (o : O), H1[b]? = some o → H3[b]? = some o := fun b o hb => K3 _ _ (K2 _ _ hb (List.getElem?_eq_some_iff.1 hb).1) (List.getElem?_eq_some_iff.1 hb).1
     have hblk : blk emptyS = [] := rfl
     cases hv
     have hc1 : ((J + 1 : Nat) : Int) = (J : Int) + 1 := by omega
     rw [hc1] at e3
     simp [g0, g2, g3, g4, g5, g6, g7, hw3, hw4, hle, hquo, hrem, ← hm, rd_def, ↓vat, hJm', hel, hi', wrN_def, ↓k2, hi1, ← hcs', ↓← hH1, hmin2, e1, e2, hwJ, e3, e4, hw, bit, hblk]
     refine ⟨kk - 1, by omega, i + 1, by omega, K13 _ _ (K1 _ _ k0 (by omega)), u3, cs', K13 _ _ k12, by rw [hcs']; simp [hcl], fun j hj => ?_, ⟨H1.length, ?_⟩, rfl, by omega⟩
     ·rw [hcs', List.getElem?_set]
      split
      ·rename_i e
       rw [if_pos (by omega), e]
      ·exact hcs j (by omega)
     ·have e6 : [] ++ natsC (X.take J) ++ natsC (X.drop (J + 1)) = natsC (nthX n (i + 1)) := by
       rw [nthX, ← hX, ← hJ]; simp [natsC]
      rw [e5, e6] at o3
      exact o3
   ·exact ⟨1, by omega, by omega, by omega, rfl, by simp [g0, g2, g3, g4, g5, facI]⟩
  ·have hi4 : i = 4 := by omega
   subst hi4
   have hce : cs = permC (nthP n) := by
    refine List.ext_getElem? fun j => ?_
    by_cases hj : j < 4
    ·rw [hcs j hj, permC_get _ hj]
    ·rw [List.getElem?_eq_none (by omega), List.getElem?_eq_none (by simp [permC]; omega)]
   subst hce
   simp only [permC] at k2
   have hself : ∀ o, (h'.set h.length o)[h.length]? = some o := fun o => set_self k0
   rw [hz] at k0
   simp [g0, g2, g3, g4, g5, rdN_def, ↓k2, wrN_def, ↓k0, hself, permW, permV, back_scalar, Out.scalar, scalar, flat1, flat]
   done
 ·exact ⟨0, H, _, z, by omega, rfl, b0, b2, by rw [hz]; rfl, fun j hj => by omega, ⟨_, o1⟩, by simp⟩
end Go.Proofs.Ytjlkndkedknocaa
namespace Go.Proofs.Ytjlkndkedknocaa
open Go Go.Ai
attribute [local instance] Classical.propDecidable
structure IsoG (N : Nat) (e1 e2 : Nat → Nat → Nat × Bool) (τ β : Nat → Nat) : Prop where
 lt : ∀ t, t < N → τ t < N
 inj : ∀ t u, t < N → u < N → τ t = τ u → t = u
 face : ∀ t f, t < N → f < 4 → e2 (τ t) (β f) = (τ (e1 t f).1, (e1 t f).2)
 perm : PermN 4 β
 com : ∀ sw i, i < 4 → pm sw (β i) = β (pm sw i)
def Gd (u : Nat) (p τ β : Nat → Nat) : Prop := u = τ 0 ∧ ∀ i, i < 4 → p i = β i
def negs (xs : List Int) : Nat := xs.countP fun x => decide (x < 0)
theorem negs_set {xs : List Int} {i : Nat} {y : Int} (hi : i < xs.length) (h : nth xs i < 0) (hy : 0 ≤ y) : negs (xs.set i y) + 1 = negs xs := by
 unfold negs
 have hx : xs[i] = nth xs i := by simp [Ai.nth, hi]
 have hpos : 0 < xs.countP fun x => decide (x < 0) := List.countP_pos_iff.2 ⟨xs[i], List.getElem_mem _, by simpa [hx] using h⟩
 rw [List.countP_set hi, if_pos (by simpa [hx] using h), if_neg (by simpa using hy)]
 omega
theorem negs_le (xs : List Int) : negs xs ≤ xs.length := List.countP_le_length
structure MaI (H h : List O) (P B T N : Nat) (to : List Int) (cs : List Value) (ps : Nat → Nat → Nat) (tk : List Bool) (τ β : Nat → Nat) (g : Prop) : Prop where
 keep : ∀ (b : Nat) (o : O), H[b]? = some o → b ≠ P → b ≠ B → b ≠ T → h[b]? = some o
 le : H.length ≤ h.length
 toB : h[P]? = some (.cells (intsC to) 3 (some 0))
 byB : h[B]? = some (.cells cs 96 (some 0))
 tkB : h[T]? = some (.cells (boolsC tk) 4 (some 0))
 toL : to.length = N
 byL : cs.length = 4 * N
 tkL : tk.length = N
 rng : ∀ s, s < N → -1 ≤ nth to s ∧ nth to s < N
 pre : ∀ s, s < N → 0 ≤ nth to s → PermN 4 (ps s) ∧ ∀ j, j < 4 → cs[s * 4 + j]? = some (.int .i64 (ps s j))
 good : g → (∀ s, s < N → 0 ≤ nth to s → nth to s = τ s ∧ ∀ j, j < 4 → ps s j = β j) ∧ ∀ y, y < N → bnth tk y = true → ∃ s, s < N ∧ 0 ≤ nth to s ∧ τ s = y
structure MaQ (H h : List O) (N qb : Nat) (to : List Int) (qs : List Nat) : Prop where
 own : OwnT h H.length (.slice (some ⟨qb, 0, none⟩) qs.length qs.length) qs.length (natsC qs) 3 1
 inq : ∀ s, s ∈ qs → s < N ∧ 0 ≤ nth to s
 cnt : qs.length + negs to ≤ N
theorem by_at {N s : Nat} {cs : List Value} {p : Nat → Nat} (hl : cs.length = 4 * N) (hs : s < N) (h : ∀ j, j < 4 → cs[s * 4 + j]? = some (.int .i64 (p j))) : (cs.drop (s * 4)).take 4 = permC p := by
 refine List.ext_getElem? fun j => ?_
 by_cases hj : j < 4
 ·rw [List.getElem?_take_of_lt hj, List.getElem?_drop, h j hj, permC_get p hj]
 ·rw [List.getElem?_eq_none (by simp; omega), List.getElem?_eq_none (by simp [permC]; omega)]
theorem perm_key (p : Nat → Nat) : keyCells [some .i64, some .i64, some .i64, some .i64] true (.agg (permC p).toArray) = some (permC p) := rfl
theorem perm_same (p : Nat → Nat) : eqCells (permC p) (permC p) = true := by simp [permC, eqCells, eqCell]
variable {E : Env} (hE : OE E)
include hE
set_option maxHeartbeats 2000000 in
set_option maxRecDepth 4000 in
theorem matchG_ {h : List O} {a1 a2 : Option Addr} {N c1 c2 u : Nat} {e1 e2 : Nat → Nat → Nat × Bool} {τ β p : Nat → Nat} (hg1 : GluP h a1 N e1) (hU1 : GlU N e1) (hg2 : GluP h a2 N e2) (hU2 : GlU N e2) (hI : IsoG N e1 e2 τ β) (hu : u < N) (hp : PermN 4 p) :
  DC E 105 [.agg #[.slice a1 N c1], .agg #[.slice a2 N c2], .int .i64 0, .int .i64 u, permW p] ⟨h, h.length⟩ fun o st' => ∃ r : Bool, o = .ret (.bool r) ∧ st' = ⟨h, h.length⟩ ∧ (Gd u p τ β → r = true) := by
 refine hE.fnC (body := rb105) rfl ?_
 unfold rb105
 obtain ⟨hN0, hN, f1, cs1, el1, own1, rfl, hf1, hF1⟩ := hg1
 obtain ⟨_, _, f2, cs2, el2, own2, rfl, hf2, hF2⟩ := hg2
 obtain ⟨hB, hhB⟩ : ∃ H, H = h ++ [O.cells [.slice (some ⟨f1, 0, none⟩) N c1] 29 (some 0), O.cells [.slice (some ⟨f2, 0, none⟩) N c2] 29 (some 0), O.cells (permC p) 96 (some 0)] := ⟨_, rfl⟩
 have hBs : Sub h hB := by rw [hhB]; exact (Sub.refl _).app _
 have lB : hB.length = h.length + 3 := by rw [hhB]; simp
 have b0 : hB[h.length]? = some (O.cells [.slice (some ⟨f1, 0, none⟩) N c1] 29 (some 0)) := by rw [hhB, app_at0]; rfl
 have b1 : hB[h.length + 1]? = some (O.cells [.slice (some ⟨f2, 0, none⟩) N c2] 29 (some 0)) := by rw [hhB, app_at]; rfl
 have b2 : hB[h.length + 2]? = some (O.cells (permC p) 96 (some 0)) := by rw [hhB, app_at]; rfl
 have lf1 := (List.getElem?_eq_some_iff.1 hf1).1
 have lf2 := (List.getElem?_eq_some_iff.1 hf2).1
 have q1 := hBs _ _ hf1
 have q2 := hBs _ _ hf2
 have z1 : (N : Int) * 8 ≤ 140737488355328 := by omega
 have z2 : (N : Int) < 4611686018427387904 := by omega
 have z3 : (N : Int) * 32 ≤ 140737488355328 := by omega
 have hhB' := hhB
 simp only [permC] at hhB'
 obtain ⟨P, hP⟩ : ∃ P, P = hB.length := ⟨_, rfl⟩
 obtain ⟨h1, hh1⟩ : ∃ H, H = hB ++ [O.cells (rep N [Value.int .i64 0]) 3 (some 0)] := ⟨_, rfl⟩
 have s1 : Sub hB h1 := by rw [hh1]; exact (Sub.refl _).app _
 have l1 : h1.length = P + 1 := by rw [hh1, hP]; simp
 have p1 : h1[P]? = some (O.cells (intsC (List.replicate N 0)) 3 (some 0)) := by
  rw [hh1, hP, app_at0]
  simp [rep, intsC]
 have r0 := s1 _ _ b0
 obtain ⟨R, hR⟩ : ∃ R, R = rep N [Value.int .i64 0, .int .i64 0, .int .i64 0, .int .i64 0] := ⟨_, rfl⟩
 have lR : R.length = 4 * N := by rw [hR, rep_length]; simp; omega
 obtain ⟨h2, hh2⟩ : ∃ H, H = h1 ++ [O.cells R 96 (some 0)] := ⟨_, rfl⟩
 have s2 : Sub h1 h2 := by rw [hh2]; exact (Sub.refl _).app _
 have l2 : h2.length = P + 2 := by rw [hh2]; simp; omega
 have p2 := s2 _ _ p1
 have B2 : h2[P + 1]? = some (O.cells R 96 (some 0)) := by rw [hh2, ← l1, app_at0]; rfl
 have hmP : min h.length P = h.length := by omega
 simp [permW, permV, List.append_assoc, rd_at0, ↓← hhB', rd_def, ↓b0, ↓b1, z1, z2, z3, ↓← hh1, ↓r0, ↓← hR, ↓← hh2]
 rw [← hP, l1]
 refine DW_loop (fun kk fr st => ∃ (i : Nat) (h' : List O) (xs : List Int), i + kk = N ∧ st = ⟨h', h.length⟩ ∧ xs.length = N ∧ (∀ j, j < i → nth xs j = -1) ∧ (∀ (b : Nat) (o : O), h2[b]? = some o → b ≠ P → h'[b]? = some o) ∧ h'[P]? = some (.cells (intsC xs) 3 (some 0)) ∧ h'.length = P + 2 ∧
  get fr 2 = .int .i64 0 ∧ get fr 3 = .int .i64 u ∧ get fr 5 = .pointer (some ⟨h.length, 0, none⟩) ∧ get fr 6 = .pointer (some ⟨h.length + 1, 0, none⟩) ∧ get fr 9 = .pointer (some ⟨h.length + 2, 0, none⟩) ∧ get fr 11 = .slice (some ⟨P, 0, none⟩) N N ∧ get fr 12 = .slice (some ⟨P + 1, 0, none⟩) N N ∧ get fr 13 = .int .i64 i) ?_ (k := N) ?_
 ·rintro kk fr st ⟨i, h', xs, hik, rfl, hl, hx, hk, hat, hlen, g2, g3, g5, g6, g9, g11, g12, g13⟩
  by_cases hi : i < N
  ·have hw : IntKind.i64.wrap ((i : Int) + 1) = (i : Int) + 1 := by rw [w64_id] <;> omega
   have hi2 : i < xs.length := by omega
   have hi3 : i + 1 ≤ xs.length := by omega
   simp [g2, g3, g5, g6, g9, g11, g12, g13, hi, ↓hat, wrN_def, hi3, hmP, hw, intsC_set]
   refine ⟨kk - 1, by omega, i + 1, by omega, xs.set i (-1), by simp [hl], fun j hj => ?_, fun b o hb hne => set_ne (hk b o hb hne) hne, set_self hat, hlen, by omega⟩
   rw [nth_set hi2]
   split
   ·rfl
   ·exact hx j (by omega)
  ·have hxs : ∀ j, j < N → nth xs j = -1 := fun j hj => hx j (by omega)
   have hK : ∀ (b : Nat) (o : O), hB[b]? = some o → h'[b]? = some o := fun b o hb => hk _ _ (s2 _ _ (s1 _ _ hb)) (by have := (List.getElem?_eq_some_iff.1 hb).1; omega)
   have y1 := hK _ _ b1
   have y2 := hK _ _ b2
   have yB := hk _ _ B2 (by omega)
   have hrepF : rep N [Value.bool false] = boolsC (List.replicate N false) := by simp [rep, boolsC]
   obtain ⟨HT, hHT⟩ : ∃ H, H = h' ++ [O.cells (boolsC (List.replicate N false)) 4 (some 0)] := ⟨_, rfl⟩
   have sT : Sub h' HT := by rw [hHT]; exact (Sub.refl _).app _
   have lT : HT.length = P + 3 := by rw [hHT]; simp; omega
   have T0 : HT[P + 2]? = some (O.cells (boolsC (List.replicate N false)) 4 (some 0)) := by rw [hHT, ← hlen, app_at0]; rfl
   have z4 : (N : Int) ≤ 140737488355328 := by omega
   have T1 := sT _ _ hat
   have TB := sT _ _ yB
   have Ty2 := sT _ _ y2
   have hN1 : 1 ≤ xs.length := by omega
   obtain ⟨to0, hto0⟩ : ∃ t, t = xs.set 0 (u : Int) := ⟨_, rfl⟩
   obtain ⟨H3, hH3⟩ : ∃ H, H = HT.set P (O.cells (intsC to0) 3 (some 0)) := ⟨_, rfl⟩
   have B3 : H3[P + 1]? = some (O.cells R 96 (some 0)) := by rw [hH3]; exact set_ne TB (by omega)
   have y3 : H3[h.length + 2]? = some (O.cells (permC p) 96 (some 0)) := by rw [hH3]; exact set_ne Ty2 (by omega)
   obtain ⟨cs0, hcs0⟩ : ∃ c, c = setL R 0 (permC p) := ⟨_, rfl⟩
   obtain ⟨H4, hH4⟩ : ∃ H, H = H3.set (P + 1) (O.cells cs0 96 (some 0)) := ⟨_, rfl⟩
   have T4 : H4[P + 2]? = some (O.cells (boolsC (List.replicate N false)) 4 (some 0)) := by rw [hH4, hH3]; exact set_ne (set_ne T0 (by omega)) (by omega)
   obtain ⟨tk0, htk0⟩ : ∃ t, t = (List.replicate N false).set u true := ⟨_, rfl⟩
   obtain ⟨H5, hH5⟩ : ∃ H, H = H4.set (P + 2) (O.cells (boolsC tk0) 4 (some 0)) := ⟨_, rfl⟩
   have l5 : H5.length = P + 3 := by rw [hH5, hH4, hH3]; simp [lT]
   obtain ⟨H6, hH6⟩ : ∃ H, H = H5 ++ [O.cells [Value.int .i64 0] 3 (some 0)] := ⟨_, rfl⟩
   have s6 : Sub H5 H6 := by rw [hH6]; exact (Sub.refl _).app _
   have l6 : H6.length = P + 4 := by rw [hH6]; simp [l5]
   have q6 : H6[P + 3]? = some (O.cells [Value.int .i64 0] 3 (some 0)) := by rw [hH6, ← l5, app_at0]; rfl
   have hmP1 : min h.length (P + 1) = h.length := by omega
   have hmP2 : min h.length (P + 2) = h.length := by omega
   have hu' : (u : Int) < N := by omega
   have y3' := y3
   simp only [permC] at y3'
   have hR4 : 4 ≤ R.length := by omega
   have hcs0' := hcs0
   simp only [permC] at hcs0'
   have hu1 : u + 1 ≤ N := by omega
   simp [g2, g3, g5, g6, g9, g11, g12, g13, hi, rd_def, ↓y1, z2, z4, hrepF, ↓← hHT, hlen, wrN_def, ↓T1, hN1, intsC_set, ↓← hto0, ↓← hH3, hmP, rdN_def, ↓y3', ↓B3, hR4, hmP1, hu', hu, hN0, ↓← hcs0', ↓← hH4, ↓T4, hu1, boolsC_set, ↓← htk0, ↓← hH5, hmP2, l5, ↓← hH6]
   have hto : ∀ s, s < N → nth to0 s = if s = 0 then (u : Int) else -1 := fun s hs => by
    rw [hto0, nth_set (by omega)]
    split
    ·rfl
    ·exact hxs s hs
   have htk : ∀ y, y < N → bnth tk0 y = true → y = u := fun y hy hb => by
    rw [htk0, bnth_set (by simpa using hu), bnth_false] at hb
    by_cases e : y = u
    ·exact e
    ·rw [if_neg e] at hb; cases hb
   have hneg : negs to0 + 1 ≤ N := by
    rw [hto0]
    have := negs_set (xs := xs) (i := 0) (y := (u : Int)) (by omega) (by rw [hxs 0 hN0]; omega) (by omega)
    have := negs_le xs
    omega
   have I0 : MaI HT H6 P (P + 1) (P + 2) N to0 cs0 (fun _ => p) tk0 τ β (Gd u p τ β) := by
    refine ⟨fun b o hb n1 n2 n3 => ?_, by omega, ?_, ?_, ?_, by rw [hto0]; simp [hl], by rw [hcs0, setL_len]; exact lR, by rw [htk0]; simp, fun s hs => ?_, fun s hs h0 => ?_, fun hgg => ⟨fun s hs h0 => ?_, fun y hy hb => ?_⟩⟩
    ·exact s6 _ _ (by rw [hH5, hH4, hH3]; exact set_ne (set_ne (set_ne hb n1) n2) n3)
    ·exact s6 _ _ (by rw [hH5, hH4]; exact set_ne (set_ne (by rw [hH3]; exact set_self T1) (by omega)) (by omega))
    ·exact s6 _ _ (by rw [hH5]; exact set_ne (by rw [hH4]; exact set_self B3) (by omega))
    ·exact s6 _ _ (by rw [hH5]; exact set_self T4)
    ·rw [hto s hs]; split <;> omega
    ·have hs0 : s = 0 := by
      rw [hto s hs] at h0
      by_cases e : s = 0
      ·exact e
      ·rw [if_neg e] at h0; omega
     subst hs0
     refine ⟨hp, fun j hj => ?_⟩
     rw [hcs0, setL_get _ _ _ _ (by simp [permC]; omega), if_pos (by simp [permC]; omega), show 0 * 4 + j - 0 = j by omega, permC_get p hj]
    ·rw [hto s hs] at h0 ⊢
     by_cases e : s = 0
     ·rw [if_pos e, e]; exact ⟨by rw [hgg.1], hgg.2⟩
     ·rw [if_neg e] at h0; omega
    ·refine ⟨0, hN0, by rw [hto 0 hN0, if_pos rfl]; omega, ?_⟩
     rw [htk y hy hb, hgg.1]
   have Q0 : MaQ HT H6 N (P + 3) to0 [0] := by
    refine ⟨.inr ⟨by simp [natsC], .inr ⟨P + 3, 0, rfl, by omega, q6, .inl rfl⟩⟩, fun s hs => ?_, by simp; omega⟩
    simp at hs
    subst hs
    exact ⟨hN0, by rw [hto 0 hN0, if_pos rfl]; omega⟩
   have TT1 := sT _ _ y1
   have TT0 := sT _ _ (hK _ _ b0)
   have TF1 := sT _ _ (hK _ _ q1)
   have TF2 := sT _ _ (hK _ _ q2)
   refine DW_loop (fun kk fr st => ∃ (k : Nat) (h' : List O) (to : List Int) (cs : List Value) (ps : Nat → Nat → Nat) (tk : List Bool) (qs : List Nat) (qb : Nat), k + kk = N ∧ st = ⟨h', h.length⟩ ∧ MaI HT h' P (P + 1) (P + 2) N to cs ps tk τ β (Gd u p τ β) ∧ MaQ HT h' N qb to qs ∧ k ≤ qs.length ∧
    get fr 5 = .pointer (some ⟨h.length, 0, none⟩) ∧ get fr 6 = .pointer (some ⟨h.length + 1, 0, none⟩) ∧ get fr 11 = .slice (some ⟨P, 0, none⟩) N N ∧ get fr 12 = .slice (some ⟨P + 1, 0, none⟩) N N ∧ get fr 14 = .slice (some ⟨P + 2, 0, none⟩) N N ∧ get fr 15 = .slice (some ⟨qb, 0, none⟩) qs.length qs.length ∧ get fr 16 = .int .i64 k) ?_ (k := N) ?_
   ·clear g2 g3 g5 g6 g9 g11 g12 g13 I0 Q0 l6 l5 hto htk hneg hH6 hH5 hH4 hH3 hcs0 hcs0' htk0 hto0 T4 B3 y3 y3' q6 s6 T1 TB Ty2 yB y1 y2 hat hk hK hlen hxs hx hl hHT sT
    clear H6 H5 H4 H3 cs0 tk0 to0 h'
    rintro kk fr st ⟨k, h', to, cs, ps, tk, qs, qb, hkk, rfl, hM, hQ, hkq, g5, g6, g11, g12, g14, g15, g16⟩
    have hcn := hQ.cnt
    by_cases hk : k < qs.length
    ·obtain ⟨s, hs⟩ : ∃ s, s = qn qs k := ⟨_, rfl⟩
     obtain ⟨qa, hqv, hqo⟩ := hQ.own.look
     obtain ⟨qb', qs', hqb, qlo, qat⟩ := hqo (by omega)
     cases hqv
     cases hqb
     have hqn := natsC_qn hk
     rw [← hs] at hqn
     simp [g5, g6, g11, g12, g14, g15, g16, hk, rd_def, ↓qat, hqn]
     refine DW_loop (fun kk2 fr st => ∃ (f : Nat) (h' : List O) (to : List Int) (cs : List Value) (ps : Nat → Nat → Nat) (tk : List Bool) (qs : List Nat) (qb : Nat), f + kk2 = 4 ∧ st = ⟨h', h.length⟩ ∧ MaI HT h' P (P + 1) (P + 2) N to cs ps tk τ β (Gd u p τ β) ∧ MaQ HT h' N qb to qs ∧ k < qs.length ∧ s = qn qs k ∧
      get fr 5 = .pointer (some ⟨h.length, 0, none⟩) ∧ get fr 6 = .pointer (some ⟨h.length + 1, 0, none⟩) ∧ get fr 11 = .slice (some ⟨P, 0, none⟩) N N ∧ get fr 12 = .slice (some ⟨P + 1, 0, none⟩) N N ∧ get fr 14 = .slice (some ⟨P + 2, 0, none⟩) N N ∧ get fr 15 = .slice (some ⟨qb, 0, none⟩) qs.length qs.length ∧ get fr 16 = .int .i64 k ∧ get fr 17 = .int .i64 s ∧ get fr 18 = .int .i64 f) ?_ (k := 4) ?_
     ·clear g5 g6 g11 g12 g14 g15 g16 hqo qat hqn qlo hs hcn hQ hM hk hkq
      clear h' to cs ps tk qs qb
      rintro kk2 fr st ⟨f, h', to, cs, ps, tk, qs, qb, hfk, rfl, hM, hQ, hk, hs, g5, g6, g11, g12, g14, g15, g16, g17, g18⟩
      by_cases hf : f < 4
      ·have hf' : (f : Int) < 4 := by omega
       have hwf : IntKind.i64.wrap ((f : Int) + 1) = (f : Int) + 1 := by rw [w64_id] <;> omega
       obtain ⟨hsN, hs0⟩ := hQ.inq s (by rw [hs]; exact qn_mem hk)
       obtain ⟨hps, hpc⟩ := hM.pre s hsN hs0
       obtain ⟨d, hd⟩ : ∃ d : Nat, nth to s = d := ⟨(nth to s).toNat, by omega⟩
       have hdN : d < N := by have := (hM.rng s hsN).2; omega
       have hφ := hps.lt f hf
       obtain ⟨φ, hφe⟩ : ∃ φ, φ = ps s f := ⟨_, rfl⟩
       have hcf := hpc f hf
       rw [← hφe] at hcf hφ
       obtain ⟨x, hx⟩ : ∃ x, x = e1 s f := ⟨_, rfl⟩
       obtain ⟨y, hy⟩ : ∃ y, y = e2 d φ := ⟨_, rfl⟩
       obtain ⟨x1, x2, _⟩ := face_at hF1 hsN hf
       obtain ⟨y1, y2, _⟩ := face_at hF2 hdN hφ
       rw [← hx] at x1
       rw [← hy] at y1
       have hxN : x.1 < N := by rw [hx]; exact hU1.lt s f hsN hf
       have hyN : y.1 < N := by rw [hy]; exact hU2.lt d φ hdN hφ
       have hpx : PermN 4 (pm x.2) := ⟨fun a ha => pm_lt _ ha, fun a b _ _ e => by rw [← pm_pm x.2 a, e, pm_pm]⟩
       have hpy : PermN 4 (pm y.2) := ⟨fun a ha => pm_lt _ ha, fun a b _ _ e => by rw [← pm_pm y.2 a, e, pm_pm]⟩
       have hpq : PermN 4 (fun i => ps s (pm x.2 i)) := ⟨fun a ha => hps.lt _ (hpx.lt a ha), fun a b ha hb e => hpx.inj a b ha hb (hps.inj _ _ (hpx.lt a ha) (hpx.lt b hb) e)⟩
       obtain ⟨q, hq⟩ : ∃ q : Nat → Nat, q = fun i => pm y.2 (ps s (pm x.2 i)) := ⟨_, rfl⟩
       have hqp : PermN 4 q := by rw [hq]; exact ⟨fun a ha => hpy.lt _ (hpq.lt a ha), fun a b ha hb e => hpq.inj a b ha hb (hpy.inj _ _ (hpq.lt a ha) (hpq.lt b hb) e)⟩
       have gd : Gd u p τ β → nth to s = τ s ∧ y.1 = τ x.1 ∧ ∀ j, j < 4 → q j = β j := fun hg => by
        obtain ⟨m1, m2⟩ := (hM.good hg).1 s hsN hs0
        have hdt : d = τ s := by omega
        have hyx : y = (τ x.1, x.2) := by rw [hy, hdt, hφe, m2 f hf, hI.face s f hsN hf, ← hx]
        refine ⟨m1, by rw [hyx], fun j hj => ?_⟩
        rw [hq, hyx]
        simp only
        rw [m2 _ (pm_lt _ hj), hI.com _ _ (pm_lt _ hj), pm_pm]
       have k0 := hM.keep _ _ TT0 (by omega) (by omega) (by omega)
       have k1 := hM.keep _ _ TT1 (by omega) (by omega) (by omega)
       have kF1 := hM.keep _ _ TF1 (by omega) (by omega) (by omega)
       have kF2 := hM.keep _ _ TF2 (by omega) (by omega) (by omega)
       have kto := hM.toB
       have kby := hM.byB
       have ktk := hM.tkB
       obtain ⟨H1, hH1⟩ : ∃ H, H = h' ++ [O.cells (faceL x) 99 (some 0)] := ⟨_, rfl⟩
       have t1 : Sub h' H1 := by rw [hH1]; exact (Sub.refl _).app _
       have v1 : H1[h'.length]? = some (O.cells (faceL x) 99 (some 0)) := by rw [hH1, app_at0]; rfl
       have l1' : H1.length = h'.length + 1 := by rw [hH1]; simp
       obtain ⟨H2, hH2⟩ : ∃ H, H = H1 ++ [O.cells (faceL y) 99 (some 0)] := ⟨_, rfl⟩
       have t2 : Sub H1 H2 := by rw [hH2]; exact (Sub.refl _).app _
       have v2 : H2[h'.length + 1]? = some (O.cells (faceL y) 99 (some 0)) := by rw [hH2, ← l1', app_at0]; rfl
       have l2' : H2.length = h'.length + 2 := by rw [hH2]; simp [l1']
       obtain ⟨H3, hH3⟩ : ∃ H, H = H2 ++ [O.cells (permC q) 96 (some 0)] := ⟨_, rfl⟩
       have t3 : Sub H2 H3 := by rw [hH3]; exact (Sub.refl _).app _
       have v3 : H3[h'.length + 2]? = some (O.cells (permC q) 96 (some 0)) := by rw [hH3, ← l2', app_at0]; rfl
       have l3' : H3.length = h'.length + 3 := by rw [hH3]; simp [l2']
       have kto1 := t1 _ _ kto
       have kby1 := t1 _ _ kby
       have k11 := t1 _ _ k1
       have kF21 := t1 _ _ kF2
       have v12 := t2 _ _ v1
       have kby2 := t2 _ _ kby1
       have v13 := t3 _ _ v12
       have v23 := t3 _ _ v2
       have kto3 := t3 _ _ (t2 _ _ kto1)
       have kby3 := t3 _ _ kby2
       have ktk3 := t3 _ _ (t2 _ _ (t1 _ _ ktk))
       have hc1 := inverseR_ hE (h := H2) x.2
       have hc2 := composeR_ hE (h := H2) hps hpx
       have hc3 := composeR_ hE (h := H2) hpy hpq
       have hj2 : joined ⟨H2, h.length⟩ ⟨H2, H2.length⟩ = ⟨H2, h.length⟩ := joined_mk _ _
       have hst : s < to.length := by rw [hM.toL]; exact hsN
       have hbl := hM.byL
       have hrow := by_at hbl hsN hpc
       have hbs4 : s * 4 + 4 ≤ cs.length := by omega
       have n1 : ¬ ((x.1 : Nat) : Int) < 0 := by omega
       have n2 : ¬ ((y.1 : Nat) : Int) < 0 := by omega
       have hφ' : (φ : Int) < 4 := by omega
       simp only [permW, permV] at hc1 hc2 hc3
       rw [l2'] at hc1 hc2 hc3 hj2
       simp only [faceL] at x1 y1 hH1 hH2 v1 v12 v13 v2 v23
       have hH3' := hH3
       have v3' := v3
       rw [hq] at hH3' v3'
       simp only [permC] at hH3' v3' hrow
       have hlh := hM.le
       have hm0 : min h.length h'.length = h.length := by omega
       have hm1 : min h.length (h'.length + 1) = h.length := by omega
       have hm2 : min h.length (h'.length + 2) = h.length := by omega
       have hwr2 : wrN (H1 ++ [O.cells [.int .i64 0, .int .i64 0, .int .i64 0, .int .i64 0, .int .i64 0] 99 (some 0)]) (h'.length + 1) 0 [.int .i64 y.1, .int .i64 (pm y.2 0), .int .i64 (pm y.2 1), .int .i64 (pm y.2 2), .int .i64 (pm y.2 3)] = some H2 := by
        rw [← l1', hH2]; simp [wrN_at0, set_at0]
       have hwr3 : wrN (H2 ++ [O.cells [.int .i64 0, .int .i64 0, .int .i64 0, .int .i64 0] 96 (some 0)]) (h'.length + 2) 0 [.int .i64 (pm y.2 (ps s (pm x.2 0))), .int .i64 (pm y.2 (ps s (pm x.2 1))), .int .i64 (pm y.2 (ps s (pm x.2 2))), .int .i64 (pm y.2 (ps s (pm x.2 3)))] = some H3 := by
        rw [← l2', hH3']; simp [wrN_at0, set_at0]
       have hwt : x.1 < to.length := by rw [hM.toL]; exact hxN
       have hyt : y.1 < tk.length := by rw [hM.tkL]; exact hyN
       have rfalse : ∀ H', ¬ Gd u p τ β → pairQ (back ⟨h, h.length⟩ (.ret (.bool false)) ⟨H', h.length⟩) fun o st' => ∃ r : Bool, o = .ret (.bool r) ∧ st' = ⟨h, h.length⟩ ∧ (Gd u p τ β → r = true) := fun H' hn => by
        rw [back_scalar rfl (Nat.le_refl _)]
        exact ⟨false, rfl, rfl, fun hg => absurd hg hn⟩
       have tt : Sub h' H3 := t1.trans (t2.trans t3)
       have hM3 : MaI HT H3 P (P + 1) (P + 2) N to cs ps tk τ β (Gd u p τ β) := ⟨fun b o hb n1 n2 n3 => tt _ _ (hM.keep b o hb n1 n2 n3), by omega, kto3, kby3, ktk3, hM.toL, hM.byL, hM.tkL, hM.rng, hM.pre, hM.good⟩
       have hQ3 : MaQ HT H3 N qb to qs := ⟨hQ.own.keep fun b sz _ _ hb => tt _ _ hb, hQ.inq, hQ.cnt⟩
       by_cases hw0 : nth to x.1 < 0
       ·cases hty : bnth tk y.1
        ·have hx1 : x.1 + 1 ≤ to.length := by omega
         have hbx : x.1 * 4 + 4 ≤ cs.length := by omega
         have hy1 : y.1 + 1 ≤ tk.length := by omega
         obtain ⟨to', hto'⟩ : ∃ t, t = to.set x.1 (y.1 : Int) := ⟨_, rfl⟩
         obtain ⟨cs', hcs'⟩ : ∃ c, c = setL cs (x.1 * 4) (permC q) := ⟨_, rfl⟩
         obtain ⟨tk', htk'⟩ : ∃ t, t = tk.set y.1 true := ⟨_, rfl⟩
         obtain ⟨H4, hH4⟩ : ∃ H, H = H3.set P (O.cells (intsC to') 3 (some 0)) := ⟨_, rfl⟩
         have v34 : H4[h'.length + 2]? = some (O.cells (permC q) 96 (some 0)) := by rw [hH4]; exact set_ne v3 (by omega)
         have v14 := set_ne (x := O.cells (intsC to') 3 (some 0)) (a := P) v13 (by omega)
         have v24 := set_ne (x := O.cells (intsC to') 3 (some 0)) (a := P) v23 (by omega)
         rw [← hH4] at v14 v24
         have kby4 : H4[P + 1]? = some (O.cells cs 96 (some 0)) := by rw [hH4]; exact set_ne kby3 (by omega)
         obtain ⟨H5, hH5⟩ : ∃ H, H = H4.set (P + 1) (O.cells cs' 96 (some 0)) := ⟨_, rfl⟩
         have v15 := set_ne (x := O.cells cs' 96 (some 0)) (a := P + 1) v14 (by omega)
         have v25 := set_ne (x := O.cells cs' 96 (some 0)) (a := P + 1) v24 (by omega)
         rw [← hH5] at v15 v25
         have ktk5 : H5[P + 2]? = some (O.cells (boolsC tk) 4 (some 0)) := by rw [hH5, hH4]; exact set_ne (set_ne ktk3 (by omega)) (by omega)
         obtain ⟨H6, hH6⟩ : ∃ H, H = H5.set (P + 2) (O.cells (boolsC tk') 4 (some 0)) := ⟨_, rfl⟩
         have v16 := set_ne (x := O.cells (boolsC tk') 4 (some 0)) (a := P + 2) v15 (by omega)
         have v26 := set_ne (x := O.cells (boolsC tk') 4 (some 0)) (a := P + 2) v25 (by omega)
         rw [← hH6] at v16 v26
         have K6 : ∀ (b : Nat) (o : O), H3[b]? = some o → b ≠ P → b ≠ P + 1 → b ≠ P + 2 → H6[b]? = some o := fun b o hb n1 n2 n3 => by rw [hH6, hH5, hH4]; exact set_ne (set_ne (set_ne hb n1) n2) n3
         have to6 : H6[P]? = some (.cells (intsC to') 3 (some 0)) := by rw [hH6, hH5]; exact set_ne (set_ne (by rw [hH4]; exact set_self kto3) (by omega)) (by omega)
         have by6 : H6[P + 1]? = some (.cells cs' 96 (some 0)) := by rw [hH6]; exact set_ne (by rw [hH5]; exact set_self kby4) (by omega)
         have tk6 : H6[P + 2]? = some (.cells (boolsC tk') 4 (some 0)) := by rw [hH6]; exact set_self ktk5
         have l6 : H6.length = h'.length + 3 := by rw [hH6, hH5, hH4]; simp [l3']
         obtain ⟨H7, hH7⟩ : ∃ H, H = H6 ++ [O.cells [Value.int .i64 x.1] 3 (some 0)] := ⟨_, rfl⟩
         have s7 : Sub H6 H7 := by rw [hH7]; exact (Sub.refl _).app _
         have l7 : H7.length = h'.length + 4 := by rw [hH7]; simp [l6]
         have ho7 : OwnT H7 HT.length (.slice (some ⟨qb, 0, none⟩) qs.length qs.length) qs.length (natsC qs) 3 1 := hQ3.own.keep fun b sz _ hlo hb => s7 _ _ (K6 _ _ hb (by omega) (by omega) (by omega))
         have hread : readSlice H7 1 1 (some ⟨h'.length + 3, 0, none⟩) = some [.int .i64 x.1] := by rw [hH7, ← l6]; simp [readSlice, rdN_at0]
         have hneg := negs_set (xs := to) (i := x.1) (y := (y.1 : Int)) hwt hw0 (by omega)
         rw [← hto'] at hneg
         have hcn := hQ.cnt
         have rm : (qs.length + 1) * 8 ≤ roomMax := by simp only [roomMax]; omega
         have lo7 : HT.length ≤ H7.length := by omega
         obtain ⟨b', H8, f8, hap, hb', hown, hg1, hg2, hL8, K8⟩ := append_T (fl := h.length) (c := 1) (bytes := 8) ho7 hread rfl rfl lo7 rm (by omega)
         obtain rfl : f8 = h.length := by omega
         rw [← natsC_append] at hown
         have K38 : ∀ (b : Nat) (o : O), H3[b]? = some o → b < HT.length → b ≠ P → b ≠ P + 1 → b ≠ P + 2 → H8[b]? = some o := fun b o hb hl n1 n2 n3 => K8 _ _ (s7 _ _ (K6 _ _ hb n1 n2 n3)) (.inl hl)
         have hnth : ∀ s', s' < N → nth to' s' = if s' = x.1 then (y.1 : Int) else nth to s' := fun s' hs' => by rw [hto', nth_set hwt]
         have hM8 : MaI HT H8 P (P + 1) (P + 2) N to' cs' (fun s' => if s' = x.1 then q else ps s') tk' τ β (Gd u p τ β) := by
          refine ⟨fun b o hb n1 n2 n3 => K38 _ _ (hM3.keep b o hb n1 n2 n3) (List.getElem?_eq_some_iff.1 hb).1 n1 n2 n3, by omega, K8 _ _ (s7 _ _ to6) (.inl (by omega)), K8 _ _ (s7 _ _ by6) (.inl (by omega)), K8 _ _ (s7 _ _ tk6) (.inl (by omega)), by rw [hto']; simp [hM.toL], by rw [hcs', setL_len]; exact hbl, by rw [htk']; simp [hM.tkL], fun s' hs' => ?_, fun s' hs' h0 => ?_, fun hg => ⟨fun s' hs' h0 => ?_, fun y' hy' hb => ?_⟩⟩
          ·rw [hnth s' hs']
           split
           ·omega
           ·exact hM.rng s' hs'
          ·have hlen : x.1 * 4 + (permC q).length ≤ cs.length := by simp [permC]; omega
           by_cases e : s' = x.1
           ·simp only [if_pos e]
            refine ⟨hqp, fun j hj => ?_⟩
            rw [hcs', setL_get _ _ _ _ hlen, if_pos (by simp [permC]; omega), e, Nat.add_sub_cancel_left, permC_get q hj]
           ·simp only [if_neg e]
            rw [hnth s' hs', if_neg e] at h0
            obtain ⟨m1, m2⟩ := hM.pre s' hs' h0
            refine ⟨m1, fun j hj => ?_⟩
            rw [hcs', setL_get _ _ _ _ hlen, if_neg (by simp [permC]; omega), m2 j hj]
          ·rw [hnth s' hs'] at h0 ⊢
           by_cases e : s' = x.1
           ·simp only [if_pos e]
            rw [e]
            exact ⟨by rw [(gd hg).2.1], (gd hg).2.2⟩
           ·simp only [if_neg e]
            rw [if_neg e] at h0
            exact (hM.good hg).1 s' hs' h0
          ·rw [htk', bnth_set hyt] at hb
           by_cases e : y' = y.1
           ·exact ⟨x.1, hxN, by rw [hnth _ hxN, if_pos rfl]; omega, by rw [e, (gd hg).2.1]⟩
           ·rw [if_neg e] at hb
            obtain ⟨s', m1, m2, m3⟩ := (hM.good hg).2 y' hy' hb
            refine ⟨s', m1, ?_, m3⟩
            rw [hnth s' m1]
            split
            ·omega
            ·exact m2
         have hQ8 : MaQ HT H8 N b' to' (qs ++ [x.1]) := by
          refine ⟨by simpa using hown, fun s' hs' => ?_, by simp; omega⟩
          rw [List.mem_append] at hs'
          rcases hs' with hs' | hs'
          ·obtain ⟨m1, m2⟩ := hQ.inq s' hs'
           refine ⟨m1, ?_⟩
           rw [hnth s' m1]
           split
           ·omega
           ·exact m2
          ·simp at hs'
           rw [hs']
           exact ⟨hxN, by rw [hnth _ hxN, if_pos rfl]; omega⟩
         have hcs'' := hcs'
         have v34' := v34
         rw [hq] at hcs'' v34'
         simp only [permC] at hcs'' v34'
         simp [g5, g6, g11, g12, g14, g15, g16, g17, g18, hf', rd_def, rdN_def, ↓k0, ↓kF1, hsN, x1, x2, wrN_at0, set_at0, ↓← hH1, ↓k11, ↓kto1, intsC_get hst, hd, ↓kby1, hcf, ↓kF21, hdN, hφ', hφ, y1, y2, l1', hwr2, hm0, hm1, hm2, bit, ↓v12, ↓v2, n1, n2, ↓kby2, hbs4, hrow, DC_of hc1, DC_of hc2, DC_of hc3, hj2, l2', hwr3, ↓v13, ↓v23, ↓v3', ↓kto3, intsC_get hwt, hxN, hyN, hw0, ↓ktk3, boolsC_get hyt, hty, wrN_def, hx1, intsC_set, ↓← hto', ↓← hH4, hmP, ↓v14, ↓v24, ↓v34', ↓kby4, hbx, ↓← hcs'', ↓← hH5, hmP1, ↓v15, ↓v25, ↓ktk5, hy1, boolsC_set, ↓← htk', ↓← hH6, hmP2, ↓v16, ↓v26, l6, ↓← hH7, hap, hwf]
         exact ⟨kk2 - 1, by omega, f + 1, by omega, to', ⟨cs', _, tk', hM8⟩, qs ++ [x.1], b', hQ8, by simp; omega, by rw [qn_snoc (by omega), if_pos hk]; exact hs, ⟨rfl, by simp⟩, by omega⟩
        ·have hng : ¬ Gd u p τ β := fun hg => by
          obtain ⟨s', h1, h2, h3⟩ := (hM.good hg).2 y.1 hyN hty
          rw [(gd hg).2.1] at h3
          have := hI.inj _ _ h1 hxN h3
          rw [this] at h2
          omega
         simp [g5, g6, g11, g12, g14, g15, g16, g17, g18, hf', rd_def, rdN_def, ↓k0, ↓kF1, hsN, x1, x2, wrN_at0, set_at0, ↓← hH1, ↓k11, ↓kto1, intsC_get hst, hd, ↓kby1, hcf, ↓kF21, hdN, hφ', hφ, y1, y2, l1', hwr2, hm0, hm1, hm2, bit, ↓v12, ↓v2, n1, n2, ↓kby2, hbs4, hrow, DC_of hc1, DC_of hc2, DC_of hc3, hj2, l2', hwr3, ↓v13, ↓v23, ↓v3', ↓kto3, intsC_get hwt, hxN, hyN, hw0, ↓ktk3, boolsC_get hyt, hty]
         exact hng
       ·obtain ⟨d2, hd2⟩ : ∃ d2 : Nat, nth to x.1 = d2 := ⟨(nth to x.1).toNat, by omega⟩
        obtain ⟨hpw, hcw⟩ := hM.pre x.1 hxN (by omega)
        have hroww := by_at hbl hxN hcw
        have hbw4 : x.1 * 4 + 4 ≤ cs.length := by omega
        have hk1 := perm_key (ps x.1)
        have hk2 := perm_key q
        rw [hq] at hk2
        simp only [permC] at hroww hk1 hk2
        have nd2 : ¬ (d2 : Int) < 0 := by omega
        by_cases hdy : d2 = y.1
        ·obtain ⟨r, hr⟩ : ∃ r, r = eqCells (permC (ps x.1)) (permC q) := ⟨_, rfl⟩
         have hr' := hr.symm
         rw [hq] at hr'
         simp only [permC] at hr'
         cases r
         ·have hng : ¬ Gd u p τ β := fun hg => by
           have e1 := ((hM.good hg).1 x.1 hxN (by omega)).2
           have e2 := (gd hg).2.2
           have : permC (ps x.1) = permC q := by
            simp only [permC]
            rw [e1 0 (by omega), e1 1 (by omega), e1 2 (by omega), e1 3 (by omega), e2 0 (by omega), e2 1 (by omega), e2 2 (by omega), e2 3 (by omega)]
           rw [this, perm_same] at hr
           cases hr
          simp [g5, g6, g11, g12, g14, g15, g16, g17, g18, hf', rd_def, rdN_def, ↓k0, ↓kF1, hsN, x1, x2, wrN_at0, set_at0, ↓← hH1, ↓k11, ↓kto1, intsC_get hst, hd, ↓kby1, hcf, ↓kF21, hdN, hφ', hφ, y1, y2, l1', hwr2, hm0, hm1, hm2, bit, ↓v12, ↓v2, n1, n2, ↓kby2, hbs4, hrow, DC_of hc1, DC_of hc2, DC_of hc3, hj2, l2', hwr3, ↓v13, ↓v23, ↓v3', ↓kto3, intsC_get hwt, hxN, hyN, hd2, nd2, hdy, ↓kby3, hbw4, hroww, hk1, hk2, hr']
          exact hng
         ·simp [g5, g6, g11, g12, g14, g15, g16, g17, g18, hf', rd_def, rdN_def, ↓k0, ↓kF1, hsN, x1, x2, wrN_at0, set_at0, ↓← hH1, ↓k11, ↓kto1, intsC_get hst, hd, ↓kby1, hcf, ↓kF21, hdN, hφ', hφ, y1, y2, l1', hwr2, hm0, hm1, hm2, bit, ↓v12, ↓v2, n1, n2, ↓kby2, hbs4, hrow, DC_of hc1, DC_of hc2, DC_of hc3, hj2, l2', hwr3, ↓v13, ↓v23, ↓v3', ↓kto3, intsC_get hwt, hxN, hyN, hd2, nd2, hdy, ↓kby3, hbw4, hroww, hk1, hk2, hr', hwf]
          exact ⟨kk2 - 1, by omega, f + 1, by omega, to, ⟨cs, ps, tk, hM3⟩, qs, qb, hQ3, hk, hs, ⟨rfl, rfl⟩, by omega⟩
        ·have hng : ¬ Gd u p τ β := fun hg => by
          have e1 := ((hM.good hg).1 x.1 hxN (by omega)).1
          have e2 := (gd hg).2.1
          omega
         simp [g5, g6, g11, g12, g14, g15, g16, g17, g18, hf', rd_def, rdN_def, ↓k0, ↓kF1, hsN, x1, x2, wrN_at0, set_at0, ↓← hH1, ↓k11, ↓kto1, intsC_get hst, hd, ↓kby1, hcf, ↓kF21, hdN, hφ', hφ, y1, y2, l1', hwr2, hm0, hm1, hm2, bit, ↓v12, ↓v2, n1, n2, ↓kby2, hbs4, hrow, DC_of hc1, DC_of hc2, DC_of hc3, hj2, l2', hwr3, ↓v13, ↓v23, ↓v3', ↓kto3, intsC_get hwt, hxN, hyN, hd2, nd2, hdy]
         exact hng
      ·obtain rfl : f = 4 := by omega
       have hcn := hQ.cnt
       have hwk : IntKind.i64.wrap ((k : Int) + 1) = (k : Int) + 1 := by rw [w64_id] <;> omega
       simp [g5, g6, g11, g12, g14, g15, g16, g17, g18, hwk]
       exact ⟨kk - 1, by omega, k + 1, by omega, to, ⟨cs, ps, tk, hM⟩, qs, qb, hQ, hk, ⟨rfl, rfl⟩, by omega⟩
     ·exact ⟨0, h', to, cs, ps, tk, qs, qb, by omega, rfl, hM, hQ, hk, hs, by simp [g5, g6, g11, g12, g14, g15, g16]⟩
    ·simp [g5, g6, g11, g12, g14, g15, g16, hk]
     done
   ·exact ⟨0, H6, to0, cs0, fun _ => p, tk0, [0], P + 3, by omega, rfl, I0, Q0, by simp, by simp [g5, g6, g11, g12]⟩
 ·exact ⟨0, h2, List.replicate N 0, by omega, rfl, by simp, fun j hj => by omega, fun b o hb _ => hb, p2, l2, by simp⟩
end Go.Proofs.Ytjlkndkedknocaa
namespace Go.Proofs.Ytjlkndkedknocaa
open Go Go.Ai
attribute [local instance] Classical.propDecidable
variable {E : Env} (hE : OE E)
include hE
theorem renum_ {h : List O} {a1 a2 : Option Addr} {N c1 c2 nb : Nat} {e1 e2 : Nat → Nat → Nat × Bool} {τ β : Nat → Nat} (hg1 : GluP h a1 N e1) (hU1 : GlU N e1) (hg2 : GluP h a2 N e2) (hU2 : GlU N e2) (hI : IsoG N e1 e2 τ β) (hnb : nb < 24) (hβ : ∀ i, i < 4 → nthP nb i = β i) :
  DR E 38 [.agg #[.slice a1 N c1], .agg #[.slice a2 N c2]] ⟨h, h.length⟩ (.ret (.bool true)) ⟨h, h.length⟩ := by
 refine hE.fn (body := rb38) rfl ?_
 unfold rb38
 have hN0 := hg1.1
 have nth0 : ∀ j, nth (List.replicate N 0) j = 0 := fun j => by by_cases hj : j < N <;> simp [Ai.nth, hj]
 have hN := hg1.2.1
 obtain ⟨hB, hhB⟩ : ∃ H, H = h ++ [O.cells [.slice a1 N c1] 29 (some 0), O.cells [.slice a2 N c2] 29 (some 0)] := ⟨_, rfl⟩
 have hBs : Sub h hB := by rw [hhB]; exact (Sub.refl _).app _
 have lB : hB.length = h.length + 2 := by rw [hhB]; simp
 have b0 : hB[h.length]? = some (O.cells [.slice a1 N c1] 29 (some 0)) := by rw [hhB, app_at0]; rfl
 have b1 : hB[h.length + 1]? = some (O.cells [.slice a2 N c2] 29 (some 0)) := by rw [hhB, app_at]; rfl
 have ck1 := checkG_ hE (c := c1) (hg1.sub hBs) hU1
 have ck2 := checkG_ hE (c := c2) (hg2.sub hBs) hU2
 have hj : joined ⟨hB, h.length⟩ ⟨hB, hB.length⟩ = ⟨hB, h.length⟩ := joined_mk _ _
 simp [List.append_assoc, rd_at0, ↓← hhB, rd_def, rdN_def, ↓b0, ↓b1, DC_of ck1, DC_of ck2, hj]
 refine (partsG_ hE (c := c1) (hg1.sub hBs) hU1).imp ?_
 rintro o ⟨h1, f1⟩ ⟨P1, rfl, hP1, hf1, s1, at1⟩
 simp only at hf1 s1 at1
 have b11 := s1 _ _ b1
 have hj1 : joined ⟨hB, h.length⟩ ⟨h1, f1⟩ = ⟨h1, h.length⟩ := by
  simp only [joined]
  split
  ·congr 1; omega
  ·rfl
 simp [hj1, rdN_def, ↓b11]
 have s1' : Sub h h1 := hBs.trans s1
 refine (partsG_ hE (c := c2) (hg2.sub s1') hU2).imp ?_
 rintro o ⟨h2, f2⟩ ⟨P2, rfl, hP2, hf2, s2, at2⟩
 simp only at hf2 s2 at2
 have l1 := s1.len
 have l2 := s2.len
 have z1 : (N : Int) ≤ 140737488355328 := by omega
 have z2 : (N : Int) < 4611686018427387904 := by omega
 have hrepF : rep N [Value.bool false] = boolsC (List.replicate N false) := by simp [rep, boolsC]
 obtain ⟨H, hH⟩ : ∃ H, H = h2 ++ [O.cells (boolsC (List.replicate N false)) 4 (some 0)] := ⟨_, rfl⟩
 have s3 : Sub h2 H := by rw [hH]; exact (Sub.refl _).app _
 have lH : H.length = h2.length + 1 := by rw [hH]; simp
 obtain ⟨U, hU⟩ : ∃ U, U = h2.length := ⟨_, rfl⟩
 have HU : H[U]? = some (O.cells (boolsC (List.replicate N false)) 4 (some 0)) := by rw [hH, hU, app_at0]; rfl
 have H1 := s3 _ _ (s2 _ _ at1)
 have H2 := s3 _ _ at2
 have H0 := s3 _ _ (s2 _ _ (s1 _ _ b0))
 have H01 := s3 _ _ (s2 _ _ b11)
 have hsH : Sub h H := s1'.trans (s2.trans s3)
 have lP1 := (List.getElem?_eq_some_iff.1 at1).1
 have lP2 := (List.getElem?_eq_some_iff.1 at2).1
 have hmU : min h.length U = h.length := by omega
 have hjo : joined ⟨h1, h.length⟩ ⟨h2, f2⟩ = ⟨h2, h.length⟩ := by
  simp only [joined]
  split
  ·congr 1; omega
  ·rfl
 simp [joined_fl, hjo, z1, z2, hrepF, ↓← hH]
 rw [← hU]
 refine DW_loop (fun kk fr st => ∃ (t : Nat) (h' : List O) (us : List Bool), t + kk = N ∧ st = ⟨h', h.length⟩ ∧ (∀ (b : Nat) (o : O), H[b]? = some o → b ≠ U → h'[b]? = some o) ∧ h'.length = H.length ∧ h'[U]? = some (.cells (boolsC us) 4 (some 0)) ∧ us.length = N ∧ (t = 0 → us = List.replicate N false) ∧
  get fr 2 = .pointer (some ⟨h.length, 0, none⟩) ∧ get fr 3 = .pointer (some ⟨h.length + 1, 0, none⟩) ∧ get fr 5 = .slice (some ⟨P1, 0, none⟩) N N ∧ get fr 7 = .slice (some ⟨P2, 0, none⟩) N N ∧ get fr 9 = .slice (some ⟨U, 0, none⟩) N N ∧ get fr 10 = .int .i64 t) ?_ (k := N) ?_
 ·rintro kk fr st ⟨t, h', us, htk, rfl, hK, hl, hUs, hul, hz, g2, g3, g5, g7, g9, g10⟩
  have k1 := hK _ _ H1 (by omega)
  have k2 := hK _ _ H2 (by omega)
  have k0 := hK _ _ H0 (by omega)
  have k01 := hK _ _ H01 (by omega)
  have hsh : Sub h h' := fun b o hb => hK _ _ (hsH _ _ hb) (by have := (List.getElem?_eq_some_iff.1 hb).1; omega)
  by_cases ht : t < N
  ·have hw : IntKind.i64.wrap ((t : Int) + 1) = (t : Int) + 1 := by rw [w64_id] <;> omega
   simp [g2, g3, g5, g7, g9, g10, ht]
   refine DW_loop (fun kk' fr st => ∃ (s : Nat) (b : Bool), s + kk' = t ∧ st = ⟨h', h.length⟩ ∧ (0 < s → b = false) ∧ (s = 0 → b = true) ∧
    get fr 2 = .pointer (some ⟨h.length, 0, none⟩) ∧ get fr 3 = .pointer (some ⟨h.length + 1, 0, none⟩) ∧ get fr 5 = .slice (some ⟨P1, 0, none⟩) N N ∧ get fr 7 = .slice (some ⟨P2, 0, none⟩) N N ∧ get fr 9 = .slice (some ⟨U, 0, none⟩) N N ∧ get fr 10 = .int .i64 t ∧ get fr 11 = .bool b ∧ get fr 12 = .int .i64 s) ?_ (k := t) ?_
   ·clear g2 g3 g5 g7 g9 g10
    rintro kk' fr st ⟨s, b, hsk, rfl, hb1, hb0, g2, g3, g5, g7, g9, g10, g11, g12⟩
    by_cases hs : s < t
    ·have hws : IntKind.i64.wrap ((s : Int) + 1) = (s : Int) + 1 := by rw [w64_id] <;> omega
     have hsN : s < N := by omega
     have hs' : (s : Int) < t := by omega
     have e1 : (intsC (List.replicate N 0))[s]? = some (.int .i64 0) := by simp [intsC, hsN]
     have e2 : (intsC (List.replicate N 0))[t]? = some (.int .i64 0) := by simp [intsC, ht]
     cases b
     ·simp [g2, g3, g5, g7, g9, g10, g11, g12, hs, rd_def, hws]
      exact ⟨kk' - 1, by omega, s + 1, by omega, by omega, by omega⟩
     ·simp [g2, g3, g5, g7, g9, g10, g11, g12, hs, rd_def, ↓k1, hsN, ht, e1, e2, hws, nth0]
      exact ⟨kk' - 1, by omega, s + 1, by omega, by omega, by omega⟩
    ·have hst : s = t := by omega
     subst hst
     by_cases ht0 : 0 < s
     ·have hbf := hb1 ht0
      subst hbf
      simp [g2, g3, g5, g7, g9, g10, g11, g12, hw]
      exact ⟨kk - 1, by omega, s + 1, by omega, hK, hl, us, hUs, hul, fun h => by omega, by omega⟩
     ·have hs0 : s = 0 := by omega
      subst hs0
      have hbt := hb0 rfl
      subst hbt
      obtain rfl := hz rfl
      simp [g2, g3, g5, g7, g9, g10, g11, g12]
      refine DW_loop (fun kk2 fr st => ∃ (v : Nat) (h' : List O) (us : List Bool) (fd : Bool), v + kk2 = N ∧ st = ⟨h', h.length⟩ ∧ (∀ (b : Nat) (o : O), H[b]? = some o → b ≠ U → h'[b]? = some o) ∧ h'.length = H.length ∧ h'[U]? = some (.cells (boolsC us) 4 (some 0)) ∧ us.length = N ∧ (fd = false → v ≤ τ 0 ∧ us = List.replicate N false) ∧
       get fr 2 = .pointer (some ⟨h.length, 0, none⟩) ∧ get fr 3 = .pointer (some ⟨h.length + 1, 0, none⟩) ∧ get fr 5 = .slice (some ⟨P1, 0, none⟩) N N ∧ get fr 7 = .slice (some ⟨P2, 0, none⟩) N N ∧ get fr 9 = .slice (some ⟨U, 0, none⟩) N N ∧ get fr 10 = .int .i64 0 ∧ get fr 13 = .bool fd ∧ get fr 14 = .int .i64 v) ?_ (k := N) ?_
      ·clear g2 g3 g5 g7 g9 g10 g11 g12 k1 k2 k0 k01 hsh hK hl hUs hz hul
       clear h'
       rintro kk2 fr st ⟨v, h', us, fd, hvk, rfl, hK, hl, hUs, hul, hfd, g2, g3, g5, g7, g9, g10, g13, g14⟩
       have hτ := hI.lt 0 hN0
       have w1 : IntKind.i64.wrap 1 = 1 := by decide
       by_cases hfv : fd = false
       ·subst hfv
        obtain ⟨hv, rfl⟩ := hfd rfl
        have hvN : v < N := by omega
        have k2 := hK _ _ H2 (by omega)
        have k0 := hK _ _ H0 (by omega)
        have k01 := hK _ _ H01 (by omega)
        have hsh : Sub h h' := fun b o hb => hK _ _ (hsH _ _ hb) (by have := (List.getElem?_eq_some_iff.1 hb).1; omega)
        have e1 : (intsC (List.replicate N 0))[v]? = some (.int .i64 0) := by simp [intsC, hvN]
        have e2 : (boolsC (List.replicate N false))[0]? = some (.bool false) := by simp [boolsC, hN0]
        have hwv : IntKind.i64.wrap ((v : Int) + 1) = (v : Int) + 1 := by rw [w64_id] <;> omega
        simp [g2, g3, g5, g7, g9, g10, g13, g14, hvN, rd_def, ↓k2, e1, hN0, ↓hUs, e2, nth0, bnth_false]
        refine DW_loop (fun kk3 fr st => ∃ (m : Nat) (fd : Bool), m + kk3 = 24 ∧ st = ⟨h', h.length⟩ ∧ (fd = false → v = τ 0 → m ≤ nb) ∧
         get fr 2 = .pointer (some ⟨h.length, 0, none⟩) ∧ get fr 3 = .pointer (some ⟨h.length + 1, 0, none⟩) ∧ get fr 5 = .slice (some ⟨P1, 0, none⟩) N N ∧ get fr 7 = .slice (some ⟨P2, 0, none⟩) N N ∧ get fr 9 = .slice (some ⟨U, 0, none⟩) N N ∧ get fr 10 = .int .i64 0 ∧ get fr 13 = .bool fd ∧ get fr 14 = .int .i64 v ∧ get fr 15 = .int .i64 m) ?_ (k := 24) ?_
        ·clear g2 g3 g5 g7 g9 g10 g13 g14
         rintro kk3 fr st ⟨m, fd, hmk, rfl, hfm, g2, g3, g5, g7, g9, g10, g13, g14, g15⟩
         cases fd
         ·by_cases hm : m < 24
          ·have hm' : (m : Int) < 24 := by omega
           have hwm : IntKind.i64.wrap ((m : Int) + 1) = (m : Int) + 1 := by rw [w64_id] <;> omega
           have hn := nth_ hE (h := h') hm
           have hj : joined ⟨h', h.length⟩ ⟨h', h'.length⟩ = ⟨h', h.length⟩ := joined_mk _ _
           have hmt := matchG_ hE (c1 := c1) (c2 := c2) (hg1.sub hsh) hU1 (hg2.sub hsh) hU2 hI hvN (nthP_perm hm)
           simp only [permW] at hn hmt
           simp [g2, g3, g5, g7, g9, g10, g13, g14, g15, hm, hm', rdN_def, ↓k0, ↓k01, DC_of hn, hj]
           refine hmt.imp ?_
           rintro o st' ⟨r, rfl, rfl, hr⟩
           simp [hj, hwm, g2, g3, g5, g7, g9, g10, g14, g15]
           refine ⟨kk3 - 1, by omega, m + 1, by omega, ?_⟩
           cases r
           ·refine .inl ⟨fun hvt => ?_, rfl, by omega⟩
            have := hfm rfl hvt
            rcases Nat.lt_or_ge m nb with h3 | h3
            ·omega
            ·have : m = nb := by omega
             subst this
             have := hr ⟨hvt, hβ⟩
             cases this
           ·exact .inr ⟨rfl, by omega⟩
          ·have hm4 : m = 24 := by omega
           subst hm4
           have hvτ : v ≠ τ 0 := fun e => by have := hfm rfl e; omega
           simp [g2, g3, g5, g7, g9, g10, g13, g14, g15, hwv]
           exact ⟨kk2 - 1, by omega, v + 1, by omega, hK, hl, List.replicate N false, hUs, by simp, ⟨by omega, rfl⟩, by omega⟩
         ·have hn1 : 1 ≤ (List.replicate N false).length := by simp; omega
          have hn1' : 1 ≤ N := hN0
          by_cases hm : (m : Int) < 24
          ·simp [g2, g3, g5, g7, g9, g10, g13, g14, g15, rd_def, ↓k2, e1, hN0, hvN, nth0, wrN_def, ↓hUs, hn1', boolsC_set, hmU, hwv, hm]
           exact ⟨kk2 - 1, by omega, v + 1, by omega, fun b o hb hne => set_ne (hK b o hb hne) hne, hl, _, set_self hUs, by simp, by omega⟩
          ·simp [g2, g3, g5, g7, g9, g10, g13, g14, g15, rd_def, ↓k2, e1, hN0, hvN, nth0, wrN_def, ↓hUs, hn1', boolsC_set, hmU, hwv, hm]
           exact ⟨kk2 - 1, by omega, v + 1, by omega, fun b o hb hne => set_ne (hK b o hb hne) hne, hl, _, set_self hUs, by simp, by omega⟩
        ·exact ⟨0, false, by omega, rfl, fun _ _ => by omega, by simp [g2, g3, g5, g7, g9, g10, g13, g14]⟩
       ·have hfv : fd = true := by cases fd <;> simp_all
        subst hfv
        by_cases hvN : v < N
        ·simp [g2, g3, g5, g7, g9, g10, g13, g14, hvN, w1]
         exact ⟨kk - 1, by omega, 1, by omega, hK, hl, us, hUs, hul, fun h => by omega, rfl⟩
        ·simp [g2, g3, g5, g7, g9, g10, g13, g14, hvN, w1]
         exact ⟨kk - 1, by omega, 1, by omega, hK, hl, us, hUs, hul, fun h => by omega, rfl⟩
      ·exact ⟨0, h', List.replicate N false, false, by omega, rfl, hK, hl, hUs, by simp, fun _ => ⟨by omega, rfl⟩, by simp [g2, g3, g5, g7, g9, g10]⟩
   ·exact ⟨0, true, by omega, rfl, fun h => by omega, fun _ => rfl, by simp [g2, g3, g5, g7, g9, g10]⟩
  ·simp [g2, g3, g5, g7, g9, g10, ht, back_scalar, Out.scalar, scalar, flat1, flat]
 ·exact ⟨0, H, List.replicate N false, by omega, rfl, fun b o hb _ => hb, rfl, HU, by simp, fun _ => rfl, by simp⟩
end Go.Proofs.Ytjlkndkedknocaa
namespace Go.Proofs.Ytjlkndkedknocaa
open Go Go.Ai
noncomputable def kinkH : List O := [.cells [.int .i64 0, .int .i64 0, .int .i64 1, .int .i64 1, .int .i64 1] 107 (some 0)]
noncomputable def kinkV : Value := .agg #[.slice (some ⟨0, 0, none⟩) 1 1, .int .i64 0]
noncomputable def circV : Value := .agg #[.slice none 0 0, .int .i64 1]
def seenI : Option (Out × St) → Option Int
 | some (.ret (.int _ n), _) => some n
 | _ => none
def lenV1 : Value → Option Nat
 | .slice _ n _ => some n
 | _ => none
def seenL : Option (Out × St) → Option Nat
 | some (.ret (.tuple vs), _) => (vs.toList[0]?).bind lenV1
 | _ => none
set_option maxRecDepth 100000
theorem ask_kink : seenI (call E0 300 84 [kinkV] ⟨kinkH, 1⟩) = some 0 := by kernel_rfl
theorem ask_circ : seenI (call E0 300 84 [circV] ⟨[], 0⟩) = some 290 := by kernel_rfl
end Go.Proofs.Ytjlkndkedknocaa
