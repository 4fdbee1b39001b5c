/- The example of one crossing: its arcs, its gluing, its vertex classes. -/
import Derived.Test.YtjlkndkedknocaaMi
import Derived.Test.YtjlkndkedknocaaOr2m
namespace Go.Proofs.Ytjlkndkedknocaa
open Go Go.Ai
set_option linter.unusedSimpArgs false
set_option linter.unusedVariables false
def xK : Nat → Nat → Int := fun _ j => if j < 2 then 0 else 1
def sK : Nat → Int := fun _ => 1
def TK : Nat → Nat → Nat := fun a k => if a = 0 then (if k = 1 then 1 else 0) else if k = 1 then 2 else if k = 3 then 3 else 0
def GK : Dg := { n := 1, X := fun _ j => if j < 2 then 0 else 1, s := sK, L := 0, T := TK }
theorem kink_T (hG : GoodG (dgOf 1 xK sK 0)) : ∀ a k, a < 2 → k < 4 → (dgOf 1 xK sK 0).T a k = TK a k := by
  have hX : ∀ i j, (dgOf 1 xK sK 0).X i j = if j < 2 then 0 else 1 := fun i j => by
    show (xK i j).toNat = _
    unfold xK; split <;> rfl
  have hs : ∀ i, (dgOf 1 xK sK 0).s i = 1 := fun i => rfl
  have hn : (dgOf 1 xK sK 0).n = 1 := rfl
  have ho : ∀ q, q < 4 → (outB 1 q = true ↔ q = 1 ∨ q = 2) := fun q hq => by
    match q, hq with
    | 0, _ => simp [outB]
    | 1, _ => simp [outB]
    | 2, _ => simp [outB]
    | 3, _ => simp [outB]
  intro a k ha hk
  obtain ⟨t0, t1, t2, t3, x1, x2, _⟩ := hG.T a (by rw [hn]; omega)
  obtain ⟨d1, d2⟩ := hG.dir a (by rw [hn]; omega)
  rw [hs] at d1 d2
  rw [hn] at t0 t2
  rw [hX] at x1 x2
  have e1 := (ho _ t1).1 d1
  have e2 : ¬ ((dgOf 1 xK sK 0).T a 3 = 1 ∨ (dgOf 1 xK sK 0).T a 3 = 2) := fun h => by
    have := (ho _ t3).2 h
    rw [this] at d2; cases d2
  have hk4 : k = 0 ∨ k = 1 ∨ k = 2 ∨ k = 3 := by omega
  have ha2 : a = 0 ∨ a = 1 := by omega
  rcases ha2 with rfl | rfl
  · split at x1 <;> split at x2 <;> rcases hk4 with rfl | rfl | rfl | rfl <;> simp only [TK] <;> simp <;> omega
  · split at x1 <;> split at x2 <;> rcases hk4 with rfl | rfl | rfl | rfl <;> simp only [TK] <;> simp <;> omega
theorem kink_out (hG : GoodG (dgOf 1 xK sK 0)) : outF (dgOf 1 xK sK 0) = outF GK := by
  have hT := kink_T hG
  have hn : (dgOf 1 xK sK 0).n = 1 := rfl
  have hal : ∀ a k, a < 2 → alT (dgOf 1 xK sK 0) a k = alT GK a k ∧ alF (dgOf 1 xK sK 0) a k = alF GK a k := fun a k ha => by
    match k with
    | 0 => simp only [alT, alF, hT a 0 ha (by omega), hT a 1 ha (by omega), GK, and_self]
    | 1 => simp only [alT, alF, hT a 2 ha (by omega), hT a 3 ha (by omega), GK, and_self]
    | 2 => simp only [alT, alF, hT a 0 ha (by omega), hT a 1 ha (by omega), GK, and_self]
    | k + 3 => simp only [alT, alF, hT a 2 ha (by omega), hT a 3 ha (by omega), GK, and_self]
  show glA (dgOf 1 xK sK 0) 2 = glA GK 2
  have h0 : glA (dgOf 1 xK sK 0) 0 = glA GK 0 := rfl
  have hJ : ∀ a k F, a < 2 → glJ (dgOf 1 xK sK 0) a k F = glJ GK a k F := fun a k F ha => by
    simp only [glJ, (hal a k ha).1, (hal a k ha).2, (hal a (k + 1) ha).1, (hal a (k + 1) ha).2]
  show glJ _ 1 2 (glJ _ 1 0 (glJ _ 0 2 (glJ _ 0 0 (glA _ 0)))) = glJ _ 1 2 (glJ _ 1 0 (glJ _ 0 2 (glJ _ 0 0 (glA _ 0))))
  rw [h0, hJ 0 0 _ (by omega), hJ 0 2 _ (by omega), hJ 1 0 _ (by omega), hJ 1 2 _ (by omega)]
def clsK (u : Nat) : Nat := [0, 0, 2, 3, 0, 0, 2, 3, 0, 0, 2, 3, 0, 0, 2, 3].getD u 0
theorem kink_inv : ∀ u, u < 16 → ∀ f, f < 4 → (match nbF (outF GK) u f with | some w => decide (w < 16 ∧ clsK w = clsK u) | none => true) = true := by decide
theorem kink_cls {a b : Nat} (ha : a < 16) (h : VC (nbF (outF GK)) a b) : b < 16 ∧ clsK b = clsK a := by
  induction h with
  | refl => exact ⟨ha, rfl⟩
  | @step b w f _ hf hw ih =>
    have := kink_inv b ih.1 f hf
    rw [hw] at this
    have := of_decide_eq_true this
    exact ⟨this.1, this.2.trans ih.2⟩
theorem kink_lead {v : Nat} (h : ∀ w, w < v → w < 16 ∧ clsK v ≠ clsK w) : ¬ ∃ w, w < v ∧ VC (nbF (outF GK)) w v := by
  rintro ⟨w, h1, h2⟩
  obtain ⟨h3, h4⟩ := h w h1
  exact h4 (kink_cls h3 h2).2
theorem kink_step {u w f v : Nat} (h : VC (nbF (outF GK)) v u) (hf : f < 4) (hw : nbF (outF GK) u f = some w) : VC (nbF (outF GK)) v w := h.step f hf hw
theorem kv0 : firstsV (nbF (outF GK)) 1 = firstsV (nbF (outF GK)) 0 ++ [0] := firstsV_new (kink_lead (by decide))
theorem kv1 : firstsV (nbF (outF GK)) 2 = firstsV (nbF (outF GK)) 1 := firstsV_old ⟨0, by decide, (kink_step (u := 0) (w := 1) (f := 1) (VC.refl 0) (by decide) (by decide))⟩
theorem kv2 : firstsV (nbF (outF GK)) 3 = firstsV (nbF (outF GK)) 2 ++ [2] := firstsV_new (kink_lead (by decide))
theorem kv3 : firstsV (nbF (outF GK)) 4 = firstsV (nbF (outF GK)) 3 ++ [3] := firstsV_new (kink_lead (by decide))
theorem kv4 : firstsV (nbF (outF GK)) 5 = firstsV (nbF (outF GK)) 4 := firstsV_old ⟨0, by decide, (kink_step (u := 0) (w := 4) (f := 2) (VC.refl 0) (by decide) (by decide))⟩
theorem kv5 : firstsV (nbF (outF GK)) 6 = firstsV (nbF (outF GK)) 5 := firstsV_old ⟨0, by decide, (kink_step (u := 1) (w := 5) (f := 2) (kink_step (u := 0) (w := 1) (f := 1) (VC.refl 0) (by decide) (by decide)) (by decide) (by decide))⟩
theorem kv6 : firstsV (nbF (outF GK)) 7 = firstsV (nbF (outF GK)) 6 := firstsV_old ⟨2, by decide, (kink_step (u := 14) (w := 6) (f := 0) (kink_step (u := 2) (w := 14) (f := 3) (VC.refl 2) (by decide) (by decide)) (by decide) (by decide))⟩
theorem kv7 : firstsV (nbF (outF GK)) 8 = firstsV (nbF (outF GK)) 7 := firstsV_old ⟨3, by decide, (kink_step (u := 3) (w := 7) (f := 2) (VC.refl 3) (by decide) (by decide))⟩
theorem kv8 : firstsV (nbF (outF GK)) 9 = firstsV (nbF (outF GK)) 8 := firstsV_old ⟨0, by decide, (kink_step (u := 4) (w := 8) (f := 3) (kink_step (u := 0) (w := 4) (f := 2) (VC.refl 0) (by decide) (by decide)) (by decide) (by decide))⟩
theorem kv9 : firstsV (nbF (outF GK)) 10 = firstsV (nbF (outF GK)) 9 := firstsV_old ⟨0, by decide, (kink_step (u := 5) (w := 9) (f := 3) (kink_step (u := 1) (w := 5) (f := 2) (kink_step (u := 0) (w := 1) (f := 1) (VC.refl 0) (by decide) (by decide)) (by decide) (by decide)) (by decide) (by decide))⟩
theorem kv10 : firstsV (nbF (outF GK)) 11 = firstsV (nbF (outF GK)) 10 := firstsV_old ⟨2, by decide, (kink_step (u := 6) (w := 10) (f := 3) (kink_step (u := 14) (w := 6) (f := 0) (kink_step (u := 2) (w := 14) (f := 3) (VC.refl 2) (by decide) (by decide)) (by decide) (by decide)) (by decide) (by decide))⟩
theorem kv11 : firstsV (nbF (outF GK)) 12 = firstsV (nbF (outF GK)) 11 := firstsV_old ⟨3, by decide, (kink_step (u := 15) (w := 11) (f := 2) (kink_step (u := 7) (w := 15) (f := 0) (kink_step (u := 3) (w := 7) (f := 2) (VC.refl 3) (by decide) (by decide)) (by decide) (by decide)) (by decide) (by decide))⟩
theorem kv12 : firstsV (nbF (outF GK)) 13 = firstsV (nbF (outF GK)) 12 := firstsV_old ⟨0, by decide, (kink_step (u := 0) (w := 12) (f := 3) (VC.refl 0) (by decide) (by decide))⟩
theorem kv13 : firstsV (nbF (outF GK)) 14 = firstsV (nbF (outF GK)) 13 := firstsV_old ⟨0, by decide, (kink_step (u := 1) (w := 13) (f := 3) (kink_step (u := 0) (w := 1) (f := 1) (VC.refl 0) (by decide) (by decide)) (by decide) (by decide))⟩
theorem kv14 : firstsV (nbF (outF GK)) 15 = firstsV (nbF (outF GK)) 14 := firstsV_old ⟨2, by decide, (kink_step (u := 2) (w := 14) (f := 3) (VC.refl 2) (by decide) (by decide))⟩
theorem kv15 : firstsV (nbF (outF GK)) 16 = firstsV (nbF (outF GK)) 15 := firstsV_old ⟨3, by decide, (kink_step (u := 7) (w := 15) (f := 0) (kink_step (u := 3) (w := 7) (f := 2) (VC.refl 3) (by decide) (by decide)) (by decide) (by decide))⟩
theorem kink_three (xs : List Int) (hG : GoodG (dgOf 1 xK sK 0)) : (cuspL (dgOf 1 xK sK 0) xs 16).length = 3 := by
  unfold cuspL
  rw [List.length_map, kink_out hG, kv15, kv14, kv13, kv12, kv11, kv10, kv9, kv8, kv7, kv6, kv5, kv4, kv3, kv2, kv1, kv0]
  rfl
end Go.Proofs.Ytjlkndkedknocaa
