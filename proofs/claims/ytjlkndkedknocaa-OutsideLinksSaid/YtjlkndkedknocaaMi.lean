/- Texts that were built one by one: Rm5, Rk10, Rk11, Rg3, Rk1, Rm6, Rk12, Or2, Or3, AiO, Or4. -/
import Derived.Test.YtjlkndkedknocaaMh
import Derived.Test.YtjlkndkedknocaaMg
import Derived.Test.YtjlkndkedknocaaMf
set_option linter.unusedSimpArgs false
set_option linter.unusedVariables false
namespace Go.Proofs.Ytjlkndkedknocaa
open Go Go.Ai
attribute [local instance] Classical.propDecidable
theorem cntP_sum (p : Nat → Prop) : ∀ n, (cntP p n : Int) = sumN (fun i => if p i then 1 else 0) n := by
 intro n
 induction n with
 | zero => rfl
 | succ n ih =>
  simp only [cntP, sumN]
  rw [← ih]
  split <;> omega
def wtE (χ : Nat → Nat) (u : Nat) : Nat := χ (4 * (u / 6) + edA (u % 6)) + χ (4 * (u / 6) + edB (u % 6))
theorem wtE_step {N : Nat} {e : Nat → Nat → Nat × Bool} {χ : Nat → Nat} (hC : ClsInv N e χ) {u f w : Nat} (hu : u < 6 * N) (hf : f < 4) (h : nbK e u f = some w) : wtE χ w = wtE χ u := by
 unfold nbK at h
 split at h
 ·cases h
 ·rename_i hne
  obtain rfl := Option.some.inj h
  obtain ⟨d1, d2, d3⟩ := ed_lt (u % 6) (Nat.mod_lt _ (by omega))
  have c1 := hC (u / 6) f (edA (u % 6)) (by omega) hf (by omega) (fun h => hne (.inl h.symm))
  have c2 := hC (u / 6) f (edB (u % 6)) (by omega) hf (by omega) (fun h => hne (.inr h.symm))
  have p1 := pm_lt (e (u / 6) f).2 (i := edA (u % 6)) (by omega)
  have p2 := pm_lt (e (u / 6) f).2 (i := edB (u % 6)) (by omega)
  have pn : pm (e (u / 6) f).2 (edA (u % 6)) ≠ pm (e (u / 6) f).2 (edB (u % 6)) := fun h => by
   have := congrArg (pm (e (u / 6) f).2) h
   rw [pm_pm, pm_pm] at this
   omega
  obtain ⟨e1, e2, e3⟩ := edN_of _ p1 _ p2 pn
  unfold wtE
  rw [c1, c2]
  obtain ⟨x, hx⟩ : ∃ x, x = edN (pm (e (u / 6) f).2 (edA (u % 6))) (pm (e (u / 6) f).2 (edB (u % 6))) := ⟨_, rfl⟩
  rw [← hx] at e1 e2 e3 ⊢
  rw [show (6 * (e (u / 6) f).1 + x) / 6 = (e (u / 6) f).1 by omega, show (6 * (e (u / 6) f).1 + x) % 6 = x by omega, e2, e3]
  rcases Nat.le_total (pm (e (u / 6) f).2 (edA (u % 6))) (pm (e (u / 6) f).2 (edB (u % 6))) with hl | hl
  ·rw [Nat.min_eq_left hl, Nat.max_eq_right hl]
  ·rw [Nat.min_eq_right hl, Nat.max_eq_left hl, Nat.add_comm]
theorem wtE_VC {N : Nat} {e : Nat → Nat → Nat × Bool} {χ : Nat → Nat} (hU : GlU N e) (hC : ClsInv N e χ) {u w : Nat} (hu : u < 6 * N) (h : VC (nbK e) u w) : wtE χ w = wtE χ u := by
 induction h with
 | refl => rfl
 | step f hab hf hw ih => rw [wtE_step hC (VK_lt hU hu hab) hf hw, ih]
def tauF (e : Nat → Nat → Nat × Bool) (x : Nat) : Nat := 4 * (e (x / 4) (x % 4)).1 + pm (e (x / 4) (x % 4)).2 (x % 4)
theorem arcS_eq (χ : Nat → Nat) (t f : Nat) (hf : f < 4) : arcS χ t f 4 + χ (4 * t + f) = χ (4 * t + 0) + χ (4 * t + 1) + χ (4 * t + 2) + χ (4 * t + 3) := by
 rcases (show f = 0 ∨ f = 1 ∨ f = 2 ∨ f = 3 by omega) with rfl | rfl | rfl | rfl <;> simp [arcS] <;> omega
theorem arcS_inv {N : Nat} {e : Nat → Nat → Nat × Bool} {χ : Nat → Nat} (hC : ClsInv N e χ) {t f : Nat} (ht : t < N) (hf : f < 4) : arcS χ (e t f).1 (pm (e t f).2 f) 4 = arcS χ t f 4 := by
 have h := fun i hi hn => hC t f i ht hf hi hn
 have a1 := arcS_eq χ t f hf
 have a2 := arcS_eq χ (e t f).1 (pm (e t f).2 f) (pm_lt _ hf)
 cases hsw : (e t f).2 with
 | false =>
  rw [hsw] at h a2
  have k : ∀ i, i < 4 → i ≠ f → χ (4 * t + i) = χ (4 * (e t f).1 + i) := h
  have b : pm false f = f := rfl
  rw [b] at a2 ⊢
  rcases (show f = 0 ∨ f = 1 ∨ f = 2 ∨ f = 3 by omega) with rfl | rfl | rfl | rfl
  ·have := k 1 (by omega) (by omega); have := k 2 (by omega) (by omega); have := k 3 (by omega) (by omega); omega
  ·have := k 0 (by omega) (by omega); have := k 2 (by omega) (by omega); have := k 3 (by omega) (by omega); omega
  ·have := k 0 (by omega) (by omega); have := k 1 (by omega) (by omega); have := k 3 (by omega) (by omega); omega
  ·have := k 0 (by omega) (by omega); have := k 1 (by omega) (by omega); have := k 2 (by omega) (by omega); omega
 | true =>
  rw [hsw] at h a2
  have k0 : 0 ≠ f → χ (4 * t + 0) = χ (4 * (e t f).1 + 1) := h 0 (by omega)
  have k1 : 1 ≠ f → χ (4 * t + 1) = χ (4 * (e t f).1 + 0) := h 1 (by omega)
  have k2 : 2 ≠ f → χ (4 * t + 2) = χ (4 * (e t f).1 + 2) := h 2 (by omega)
  have k3 : 3 ≠ f → χ (4 * t + 3) = χ (4 * (e t f).1 + 3) := h 3 (by omega)
  rcases (show f = 0 ∨ f = 1 ∨ f = 2 ∨ f = 3 by omega) with rfl | rfl | rfl | rfl
  ·have b : pm true 0 = 1 := rfl
   rw [b] at a2 ⊢
   have := k1 (by omega); have := k2 (by omega); have := k3 (by omega); omega
  ·have b : pm true 1 = 0 := rfl
   rw [b] at a2 ⊢
   have := k0 (by omega); have := k2 (by omega); have := k3 (by omega); omega
  ·have b : pm true 2 = 2 := rfl
   rw [b] at a2 ⊢
   have := k0 (by omega); have := k1 (by omega); have := k3 (by omega); omega
  ·have b : pm true 3 = 3 := rfl
   rw [b] at a2 ⊢
   have := k0 (by omega); have := k1 (by omega); have := k2 (by omega); omega
def corS (χ : Nat → Nat) (t : Nat) : Int := χ (4 * t + 0) + χ (4 * t + 1) + χ (4 * t + 2) + χ (4 * t + 3)
theorem faces_sum {N : Nat} {e : Nat → Nat → Nat × Bool} (hU : GlU N e) {χ : Nat → Nat} (hC : ClsInv N e χ) : 2 * sumN (fun x => if x < tauF e x then (arcS χ (x / 4) (x % 4) 4 : Int) else 0) (4 * N) = 3 * sumN (corS χ) N := by
 rw [half_sum (τ := tauF e) (A := fun x => (arcS χ (x / 4) (x % 4) 4 : Int)), sN_block, ← sumN_mul]
 ·refine sumN_congr fun t ht => ?_
  have h := fun f hf => arcS_eq χ t f hf
  have h0 := h 0 (by omega); have h1 := h 1 (by omega); have h2 := h 2 (by omega); have h3 := h 3 (by omega)
  simp only [sumN]
  rw [show (4 * t + 0) / 4 = t by omega, show (4 * t + 1) / 4 = t by omega, show (4 * t + 2) / 4 = t by omega, show (4 * t + 3) / 4 = t by omega, show (4 * t + 0) % 4 = 0 by omega, show (4 * t + 1) % 4 = 1 by omega, show (4 * t + 2) % 4 = 2 by omega, show (4 * t + 3) % 4 = 3 by omega]
  unfold corS
  omega
 ·intro x hx
  have ht : x / 4 < N := by omega
  have hf : x % 4 < 4 := by omega
  have h1 := hU.lt _ _ ht hf
  have h2 := hU.sym _ _ ht hf
  have h3 := hU.self _ _ ht hf
  have h4 := pm_lt (e (x / 4) (x % 4)).2 hf
  have h5 := arcS_inv hC ht hf
  obtain ⟨t', ht'⟩ : ∃ t', t' = (e (x / 4) (x % 4)).1 := ⟨_, rfl⟩
  obtain ⟨f', hf'⟩ : ∃ f', f' = pm (e (x / 4) (x % 4)).2 (x % 4) := ⟨_, rfl⟩
  have hτ : tauF e x = 4 * t' + f' := by unfold tauF; rw [ht', hf']
  rw [← ht'] at h1 h2 h3 h5
  rw [← hf'] at h2 h3 h4 h5
  have hd : (4 * t' + f') / 4 = t' := by omega
  have hm : (4 * t' + f') % 4 = f' := by omega
  rw [hτ]
  refine ⟨by omega, ?_, fun h => h3 (by omega), by simp only [hd, hm, h5]⟩
  unfold tauF
  rw [hd, hm, h2]
  simp only
  rw [hf', pm_pm]
  omega
section
variable {G : Dg} (hG : GoodG G) (hP : PlanG G) (hM : MixG G)
include hG hM
theorem can_sum (F : Nat → Int) : sumN (fun u => if canE G u = u then F u else 0) (24 * G.n) = sumN (fun c => F (24 * c) + F (6 * (4 * c + inQ G c 1) + 2) + F (24 * c + 3)) G.n + sumN (fun j => if rR0 G j = j then F (6 * j + 5) else 0) (4 * G.n) := by
 rw [show 24 * G.n = 6 * (4 * G.n) by omega, sN_block]
 have h1 : ∀ j, j < 4 * G.n → sumN (fun i => if canE G (6 * j + i) = 6 * j + i then F (6 * j + i) else 0) 6 = ((if j % 4 = 0 then F (6 * j) else 0) + (if j % 4 = inQ G (j / 4) 1 then F (6 * j + 2) else 0) + (if j % 4 = 0 then F (6 * j + 3) else 0)) + (if rR0 G j = j then F (6 * j + 5) else 0) := fun j hj => by
  have hs := fun v (hv : v < 6) => canE_self hG hM (c := j / 4) (p := j % 4) (v := v) (by omega) (by omega) hv
  rw [show 4 * (j / 4) + j % 4 = j by omega] at hs
  have s0 := hs 0 (by omega); have s1 := hs 1 (by omega); have s2 := hs 2 (by omega); have s3 := hs 3 (by omega); have s4 := hs 4 (by omega); have s5 := hs 5 (by omega)
  have v0 : (if canE G (6 * j + 0) = 6 * j + 0 then F (6 * j + 0) else 0) = if j % 4 = 0 then F (6 * j) else 0 := by
   by_cases c : j % 4 = 0
   ·rw [if_pos c, if_pos (s0.2 (by omega))]; rfl
   ·rw [if_neg c, if_neg fun h => by have := s0.1 h; omega]
  have v1 : (if canE G (6 * j + 1) = 6 * j + 1 then F (6 * j + 1) else 0) = 0 := if_neg fun h => by have := s1.1 h; omega
  have v2 : (if canE G (6 * j + 2) = 6 * j + 2 then F (6 * j + 2) else 0) = if j % 4 = inQ G (j / 4) 1 then F (6 * j + 2) else 0 := by
   by_cases c : j % 4 = inQ G (j / 4) 1
   ·rw [if_pos c, if_pos (s2.2 (by omega))]
   ·rw [if_neg c, if_neg fun h => by have := s2.1 h; omega]
  have v3 : (if canE G (6 * j + 3) = 6 * j + 3 then F (6 * j + 3) else 0) = if j % 4 = 0 then F (6 * j + 3) else 0 := by
   by_cases c : j % 4 = 0
   ·rw [if_pos c, if_pos (s3.2 (by omega))]
   ·rw [if_neg c, if_neg fun h => by have := s3.1 h; omega]
  have v4 : (if canE G (6 * j + 4) = 6 * j + 4 then F (6 * j + 4) else 0) = 0 := if_neg fun h => by have := s4.1 h; omega
  have v5 : (if canE G (6 * j + 5) = 6 * j + 5 then F (6 * j + 5) else 0) = if rR0 G j = j then F (6 * j + 5) else 0 := by
   by_cases c : rR0 G j = j
   ·rw [if_pos c, if_pos (s5.2 (by omega))]
   ·rw [if_neg c, if_neg fun h => by have := s5.1 h; omega]
  simp only [sumN]
  rw [v0, v1, v2, v3, v4, v5]
  omega
 rw [sumN_congr h1, sumN_add, sN_block (fun i => (if i % 4 = 0 then F (6 * i) else 0) + (if i % 4 = inQ G (i / 4) 1 then F (6 * i + 2) else 0) + (if i % 4 = 0 then F (6 * i + 3) else 0)) 4 G.n]
 congr 1
 refine sumN_congr fun c hc => ?_
 obtain ⟨q1, q2, _⟩ := inQ_ok hG hc (show 1 < 2 by omega)
 simp only [sumN]
 rw [show (4 * c + 0) / 4 = c by omega, show (4 * c + 1) / 4 = c by omega, show (4 * c + 2) / 4 = c by omega, show (4 * c + 3) / 4 = c by omega, show (4 * c + 0) % 4 = 0 by omega, show (4 * c + 1) % 4 = 1 by omega, show (4 * c + 2) % 4 = 2 by omega, show (4 * c + 3) % 4 = 3 by omega]
 rw [show 6 * (4 * c + 0) = 24 * c by omega]
 rcases (show inQ G c 1 = 1 ∨ inQ G c 1 = 3 by omega) with e | e <;> rw [e] <;> simp <;> omega
theorem edge_sum (hU : GlU (4 * G.n) (outE G)) {K : Nat} {cls : Nat → Nat} (hlt : ∀ u, u < 24 * G.n → cls u < K) (hon : ∀ k, k < K → ∃ u, u < 24 * G.n ∧ cls u = k) (hrel : ∀ u w, u < 24 * G.n → w < 24 * G.n → (cls u = cls w ↔ VC (nbK (outE G)) u w)) {W F : Nat → Int} (hW : ∀ u, u < 24 * G.n → W (cls u) = F u) :
  sumN W K = sumN (fun c => F (24 * c) + F (6 * (4 * c + inQ G c 1) + 2) + F (24 * c + 3)) G.n + sumN (fun j => if rR0 G j = j then F (6 * j + 5) else 0) (4 * G.n) := by
 rw [← can_sum hG hM]
 have hcl : ∀ u, u < 24 * G.n → canE G u < 24 * G.n := fun u hu => VE_lt hG hU hu (canE_conn hG hM hu)
 have hgo := cls_sum (F := F) (F' := W) (cls := cls) (Tr := fun u => canE G u = u) hlt hon (fun u hu => ⟨canE G u, hcl u hu, canE_same hG hM hU hu (canE_conn hG hM hu), ((hrel u (canE G u) hu (hcl u hu)).2 (canE_conn hG hM hu)).symm⟩) (fun u w hu hw tu tw e => by
  have := canE_same hG hM hU hu ((hrel u w hu hw).1 e)
  rw [← tu, ← tw, this]) (fun u hu _ => hW u hu)
 refine hgo.trans (sumN_congr fun u _ => ?_)
 by_cases c : canE G u = u
 ·rw [if_pos c, if_pos c]
 ·rw [if_neg c, if_neg c]
theorem reg_sum (z : Int) : sumN (fun j => if rR0 G j = j then z else 0) (4 * G.n) = (G.n + 2 : Int) * z := by
 have h1 := rR0_cnt hG
 rw [hM.2.2.1] at h1
 unfold cntR at h1
 have h2 := cntP_sum (fun b => rR0 G b = b) (4 * G.n)
 rw [h1] at h2
 have h4 : sumN (fun j => if rR0 G j = j then z else 0) (4 * G.n) = sumN (fun i => z * (@ite Int (rR0 G i = i) (Classical.propDecidable _) 1 0)) (4 * G.n) := sumN_congr fun i _ => by
  by_cases c : rR0 G i = i
  ·rw [if_pos c, if_pos c]; omega
  ·rw [if_neg c, if_neg c]; omega
 rw [h4, sumN_mul, ← h2, Int.mul_comm]
 push_cast
 rfl
theorem edge_count (hU : GlU (4 * G.n) (outE G)) {K : Nat} {cls : Nat → Nat} (hlt : ∀ u, u < 24 * G.n → cls u < K) (hon : ∀ k, k < K → ∃ u, u < 24 * G.n ∧ cls u = k) (hrel : ∀ u w, u < 24 * G.n → w < 24 * G.n → (cls u = cls w ↔ VC (nbK (outE G)) u w)) : K = 4 * G.n + 2 := by
 have h := edge_sum hG hM hU hlt hon hrel (W := fun _ => 1) (F := fun _ => 1) (fun _ _ => rfl)
 rw [reg_sum hG hM, sN_const, sN_const] at h
 omega
theorem euler_val (hU : GlU (4 * G.n) (outE G)) {xs : List Int} {k : Nat} (hO : OrbI (2 * G.n) (nx G) (2 * G.n) k xs) {χ : Nat → Nat} {z : Int} (hχ : ∀ u, u < 16 * G.n → χ u = if cuspV G xs u = z then 1 else 0) (hC : ClsInv (4 * G.n) (outE G) χ) {K : Nat} {cls : Nat → Nat} (hlt : ∀ u, u < 24 * G.n → cls u < K) (hon : ∀ k, k < K → ∃ u, u < 24 * G.n ∧ cls u = k) (hrel : ∀ u w, u < 24 * G.n → w < 24 * G.n → (cls u = cls w ↔ VC (nbK (outE G)) u w)) {W : Nat → Int} (hW : ∀ u, u < 24 * G.n → W (cls u) = wtE χ u) (hz : -2 ≤ z) :
  sumN W K - sumN (fun x => if x < tauF (outE G) x then (arcS χ (x / 4) (x % 4) 4 : Int) else 0) (4 * (4 * G.n)) + sumN (corS χ) (4 * G.n) = if z < 0 then 2 else 0 := by
 have hf := faces_sum hU hC
 have he := edge_sum hG hM hU hlt hon hrel (W := W) (F := fun u => (wtE χ u : Int)) hW
 obtain ⟨Z, hZ⟩ : ∃ Z : Nat → Nat → Int, ∀ c v, Z c v = if cval G xs c v = z then 1 else 0 := ⟨_, fun _ _ => rfl⟩
 have hχ' : ∀ c p v, c < G.n → p < 4 → v < 4 → (χ (4 * (4 * c + p) + v) : Int) = Z c v := fun c p v hc hp hv => by
  rw [hχ _ (by omega), hZ, cuspV_eq, show (4 * (4 * c + p) + v) / 16 = c by omega, show (4 * (4 * c + p) + v) % 4 = v by omega]
  split <;> rfl
 obtain ⟨B2, hB2⟩ : ∃ B : Int, B = if (-1 : Int) = z then 1 else 0 := ⟨_, rfl⟩
 obtain ⟨B3, hB3⟩ : ∃ B : Int, B = if (-2 : Int) = z then 1 else 0 := ⟨_, rfl⟩
 have z2 : ∀ c, Z c 2 = B2 := fun c => by rw [hZ, hB2]; rfl
 have z3 : ∀ c, Z c 3 = B3 := fun c => by rw [hZ, hB3]; rfl
 have w0 : ∀ c, c < G.n → (wtE χ (24 * c) : Int) + wtE χ (6 * (4 * c + inQ G c 1) + 2) + wtE χ (24 * c + 3) = 2 * (Z c 0 + Z c 1) + (B2 + B3) := fun c hc => by
  obtain ⟨q1, q2, _⟩ := inQ_ok hG hc (show 1 < 2 by omega)
  have a1 : (wtE χ (24 * c) : Int) = Z c 0 + Z c 1 := by
   unfold wtE
   rw [show 24 * c / 6 = 4 * c + 0 by omega, show 24 * c % 6 = 0 by omega]
   push_cast
   show (χ (4 * (4 * c + 0) + 0) : Int) + χ (4 * (4 * c + 0) + 1) = _
   rw [hχ' c 0 0 hc (by omega) (by omega), hχ' c 0 1 hc (by omega) (by omega)]
  have a2 : (wtE χ (6 * (4 * c + inQ G c 1) + 2) : Int) = Z c 0 + B3 := by
   unfold wtE
   rw [show (6 * (4 * c + inQ G c 1) + 2) / 6 = 4 * c + inQ G c 1 by omega, show (6 * (4 * c + inQ G c 1) + 2) % 6 = 2 by omega]
   push_cast
   show (χ (4 * (4 * c + inQ G c 1) + 0) : Int) + χ (4 * (4 * c + inQ G c 1) + 3) = _
   rw [hχ' c _ 0 hc q1 (by omega), hχ' c _ 3 hc q1 (by omega), z3]
  have a3 : (wtE χ (24 * c + 3) : Int) = Z c 1 + B2 := by
   unfold wtE
   rw [show (24 * c + 3) / 6 = 4 * c + 0 by omega, show (24 * c + 3) % 6 = 3 by omega]
   push_cast
   show (χ (4 * (4 * c + 0) + 1) : Int) + χ (4 * (4 * c + 0) + 2) = _
   rw [hχ' c 0 1 hc (by omega) (by omega), hχ' c 0 2 hc (by omega) (by omega), z2]
  omega
 have w5 : ∀ j, j < 4 * G.n → (if rR0 G j = j then (wtE χ (6 * j + 5) : Int) else 0) = if rR0 G j = j then B2 + B3 else 0 := fun j hj => by
  have : (wtE χ (6 * j + 5) : Int) = B2 + B3 := by
   unfold wtE
   rw [show (6 * j + 5) / 6 = 4 * (j / 4) + j % 4 by omega, show (6 * j + 5) % 6 = 5 by omega]
   push_cast
   show (χ (4 * (4 * (j / 4) + j % 4) + 2) : Int) + χ (4 * (4 * (j / 4) + j % 4) + 3) = _
   rw [hχ' _ _ 2 (by omega) (by omega) (by omega), hχ' _ _ 3 (by omega) (by omega) (by omega), z2, z3]
  rw [this]
 have hc : sumN (corS χ) (4 * G.n) = sumN (fun c => 4 * (Z c 0 + Z c 1 + (B2 + B3))) G.n := by
  rw [sN_block]
  refine sumN_congr fun c hc => ?_
  have : ∀ p, p < 4 → corS χ (4 * c + p) = Z c 0 + Z c 1 + (B2 + B3) := fun p hp => by
   unfold corS
   rw [hχ' c p 0 hc hp (by omega), hχ' c p 1 hc hp (by omega), hχ' c p 2 hc hp (by omega), hχ' c p 3 hc hp (by omega), z2, z3]
   omega
  simp only [sumN]
  rw [this 0 (by omega), this 1 (by omega), this 2 (by omega), this 3 (by omega)]
  omega
 rw [sumN_congr w0, sumN_congr w5, reg_sum hG hM, sumN_add, sumN_mul, sN_const] at he
 rw [sumN_mul, sumN_add, sN_const] at hc
 have hb : B2 + B3 = if z < 0 then 1 else 0 := by
  rw [hB2, hB3]
  by_cases c1 : z < 0
  ·rw [if_pos c1]
   rcases (show z = -1 ∨ z = -2 by omega) with rfl | rfl <;> rfl
  ·rw [if_neg c1, if_neg (by omega), if_neg (by omega)]; rfl
 obtain ⟨B, hB⟩ : ∃ B : Int, B = B2 + B3 := ⟨_, rfl⟩
 rw [← hB] at he hc hb
 obtain ⟨S, hS⟩ : ∃ S : Int, S = sumN (fun i => Z i 0 + Z i 1) G.n := ⟨_, rfl⟩
 rw [← hS] at he hc
 rw [Int.add_mul] at he
 obtain ⟨nB, hnB⟩ : ∃ nB : Int, nB = (G.n : Int) * B := ⟨_, rfl⟩
 rw [← hnB] at he hc
 by_cases c1 : z < 0
 ·rw [if_pos c1] at hb ⊢; omega
 ·rw [if_neg c1] at hb ⊢; omega
end
end Go.Proofs.Ytjlkndkedknocaa
namespace Go.Proofs.Ytjlkndkedknocaa
open Go Go.Ai
attribute [local instance] Classical.propDecidable
def WtsP (χ : Nat → Nat) (ys : List Int) (cnt i : Nat) (ws : List Int) : Prop := ws.length = cnt ∧ ∀ k, k < cnt → (∃ u, u < i ∧ nth ys u = k) → ∃ u, u < i ∧ nth ys u = k ∧ nth ws k = wtE χ u
theorem WtsP.put {χ : Nat → Nat} {ys : List Int} {cnt i p : Nat} {ws : List Int} (h : WtsP χ ys cnt i ws) (hp : nth ys i = p) (hpc : p < cnt) : WtsP χ ys cnt (i + 1) (ws.set p (wtE χ i)) := by
 refine ⟨by simp [h.1], fun k hk hex => ?_⟩
 rw [nth_set (by rw [h.1]; exact hpc)]
 by_cases e : k = p
 ·rw [if_pos e]
  exact ⟨i, by omega, by rw [hp, e], rfl⟩
 ·rw [if_neg e]
  obtain ⟨u, h1, h2⟩ := hex
  have : u ≠ i := fun hc => e (by rw [hc, hp] at h2; omega)
  obtain ⟨w, k1, k2, k3⟩ := h.2 k hk ⟨u, by omega, h2⟩
  exact ⟨w, by omega, k2, k3⟩
variable {E : Env} (hE : OE E)
include hE
set_option maxHeartbeats 1000000 in
theorem weights_ {h0 : List O} {a a' : Option Addr} {N c c' : Nat} {e : Nat → Nat → Nat × Bool} {χ : Nat → Nat} {xs : List Int} (hg : GluP h0 a N e) (hU : GlU N e) (hN : N ≤ 60) (hl : LisP h0 a' (7 * N) xs) (hx : LkR N χ xs) (hC : ClsInv N e χ) :
  DC E 101 [.agg #[.slice a N c], .slice a' (7 * N) c'] ⟨h0, h0.length⟩ fun o st' => ∃ (b : Nat) (cls ys ws : List Int) (cnt : Nat), o = .ret (.tuple #[.slice (some ⟨b, 0, none⟩) cnt cnt, .int .i64 0]) ∧ h0.length ≤ st'.fl ∧ Sub h0 st'.h ∧ AtB st'.h b (.cells (intsC ws) 3 (some 0)) ∧
   WtsP χ ys cnt (6 * N) ws ∧ NumI cls ys (6 * N) (6 * N) cnt ∧ cnt ≤ 6 * N ∧ ∀ a b, a < 6 * N → b < 6 * N → (nth cls a = nth cls b ↔ VC (nbK e) a b) := by
 refine hE.fnC (body := rb101) rfl ?_
 unfold rb101
 have hN0 : 0 < N := hg.1
 obtain ⟨hB, hhB⟩ : ∃ H, H = h0 ++ [O.cells [.slice a N c] 29 (some 0)] := ⟨_, rfl⟩
 have lB : hB.length = h0.length + 1 := by rw [hhB]; simp
 have sB : Sub h0 hB := by rw [hhB]; exact (Sub.refl _).app _
 have bB : hB[h0.length]? = some (O.cells [.slice a N c] 29 (some 0)) := by rw [hhB, app_at0]; rfl
 have hck := check13_ hE (c := c) (c' := c') (hg.sub sB) hU hN (hl.sub sB) hx hC
 have hec := edgeClasses_ hE (c := c) (hg.sub sB) hU
 have hj : joined ⟨hB, h0.length⟩ ⟨hB, hB.length⟩ = ⟨hB, h0.length⟩ := joined_mk _ _
 obtain ⟨M, hM⟩ : ∃ M, M = 6 * N := ⟨_, rfl⟩
 simp only [← hM] at hec ⊢
 simp [List.append_assoc, rd_at0, ↓← hhB, rd_def, rdN_def, ↓bB, DC_of hck, hj]
 refine hec.imp ?_
 rintro o ⟨h1, f1⟩ ⟨b, cls, ys, cnt, rfl, hb, hf1, hs1, hat, hI, hcnt, hcl⟩
 simp only at hf1 hs1 hat
 unfold AtB at hat
 have hj1 : joined ⟨hB, h0.length⟩ ⟨h1, f1⟩ = ⟨h1, h0.length⟩ := by
  simp only [joined]
  split
  ·congr 1; omega
  ·rfl
 have ls1 := hs1.len
 have hbl := (List.getElem?_eq_some_iff.1 hat).1
 have hct := countN_ hE hat hI hcnt (by omega)
 have hjn : joined ⟨h1, h0.length⟩ ⟨h1, h1.length⟩ = ⟨h1, h0.length⟩ := joined_mk _ _
 have z1 : (cnt : Int) * 8 ≤ 140737488355328 := by omega
 have z2 : (cnt : Int) < 4611686018427387904 := by omega
 obtain ⟨h2, hh2⟩ : ∃ H, H = h1 ++ [O.cells (rep cnt [Value.int .i64 0]) 3 (some 0)] := ⟨_, rfl⟩
 have s2 : Sub h1 h2 := by rw [hh2]; exact (Sub.refl _).app _
 have l2 : h2.length = h1.length + 1 := by rw [hh2]; simp
 have q2 : h2[h1.length]? = some (O.cells (intsC (List.replicate cnt 0)) 3 (some 0)) := by rw [hh2, app_at0]; simp [rep, intsC]
 simp [hj1, DC_of hct, hjn, z1, z2, ↓← hh2]
 obtain ⟨P, hP⟩ : ∃ P, P = h1.length := ⟨_, rfl⟩
 rw [← hP] at q2 l2 ⊢
 have hmP : min h0.length P = h0.length := by omega
 have hyl := hI.len
 refine DW_loop (fun kk fr st => ∃ (i : Nat) (h' : List O) (ws : List Int), i + kk = M ∧ st = ⟨h', h0.length⟩ ∧ h'.length = h2.length ∧ (∀ (b : Nat) (o : O), h2[b]? = some o → b ≠ P → h'[b]? = some o) ∧ h'[P]? = some (O.cells (intsC ws) 3 (some 0)) ∧ WtsP χ ys cnt i ws ∧
  get fr 1 = .slice a' (7 * N) c' ∧ get fr 7 = .slice (some ⟨b, 0, none⟩) M M ∧ get fr 8 = .slice (some ⟨P, 0, none⟩) cnt cnt ∧ get fr 9 = .int .i64 i) ?_ (k := M) ?_
 ·rintro kk fr st ⟨i, h', ws, hik, rfl, hl', hk', hat', hW, g1, g7, g8, g9⟩
  have hath := hk' _ _ (s2 _ _ hat) (by omega)
  have s0' : Sub h0 h' := fun b o hb => hk' _ _ (s2 _ _ (hs1 _ _ (sB _ _ hb))) (by have := (List.getElem?_eq_some_iff.1 hb).1; omega)
  by_cases hi : i < M
  ·have hwi : IntKind.i64.wrap ((i : Int) + 1) = (i : Int) + 1 := by rw [w64_id] <;> omega
   have hiy : i < ys.length := by omega
   have hv := hI.val i hi
   obtain ⟨p, hp⟩ : ∃ p : Nat, nth ys i = p := ⟨(nth ys i).toNat, by omega⟩
   have hpc : p < cnt := by omega
   have hpw : p + 1 ≤ ws.length := by rw [hW.1]; omega
   have hquo : binV .quo (.int .i64 i) (.int .i64 6) = some (.int .i64 ((i / 6 : Nat) : Int)) := by
    rw [binV_quo (by decide), show ((6 : Int)) = ((6 : Nat) : Int) from rfl, ← Int.ofNat_tdiv, w64_id] <;> omega
   have hrem : binV .rem (.int .i64 i) (.int .i64 6) = some (.int .i64 ((i % 6 : Nat) : Int)) := by
    rw [binV_rem (by decide), show ((6 : Int)) = ((6 : Nat) : Int) from rfl, tmod_nat]
   have hwt := weight_ hE (c := c') (t := i / 6) (e := i % 6) (hl.sub s0') hx (by omega) (by omega) (Nat.mod_lt _ (by omega))
   have hwe : χ (4 * (i / 6) + edA (i % 6)) + χ (4 * (i / 6) + edB (i % 6)) = wtE χ i := rfl
   rw [hwe] at hwt
   have hW' := hW.put hp hpc
   obtain ⟨z, hz⟩ : ∃ z, z = wtE χ i := ⟨_, rfl⟩
   rw [← hz] at hwt hW'
   obtain ⟨di, hdi⟩ : ∃ d, d = i / 6 := ⟨_, rfl⟩
   obtain ⟨mi, hmi⟩ : ∃ m, m = i % 6 := ⟨_, rfl⟩
   rw [← hdi] at hquo hwt
   rw [← hmi] at hrem hwt
   have hPb : ¬ P = b := by omega
   have hjn' : joined ⟨h', h0.length⟩ ⟨h', h'.length⟩ = ⟨h', h0.length⟩ := joined_mk _ _
   simp [g1, g7, g8, g9, hi, rd_def, ↓hath, intsC_get hiy, hp, hquo, hrem, DC_of hwt, hjn', hpc, wrN_def, ↓hat', hpw, intsC_set, hmP, hwi, bit, hPb]
   exact ⟨kk - 1, by omega, i + 1, by omega, hl', fun b o hb hne => set_ne (hk' b o hb hne) hne, ws.set p z, set_self hat', hW', by omega⟩
  ·have hiM : i = M := by omega
   subst hiM
   have s2' : Sub h1 h' := fun b o hb => hk' _ _ (s2 _ _ hb) (by have := (List.getElem?_eq_some_iff.1 hb).1; omega)
   simp [g1, g7, g8, g9]
   unfold pairQ back
   rw [if_neg (by simp [Out.scalar, scalar, flat1, flat])]
   exact ⟨P, cls, ys, ws, cnt, rfl, Nat.le_refl _, s0', hat', hW, hI, hcnt, hcl⟩
 ·exact ⟨0, h2, List.replicate cnt 0, by omega, rfl, rfl, fun b o hb _ => hb, q2, ⟨by simp, fun k hk ⟨u, hu, _⟩ => by omega⟩, by simp⟩
end Go.Proofs.Ytjlkndkedknocaa
namespace Go.Proofs.Ytjlkndkedknocaa
open Go Go.Ai
attribute [local instance] Classical.propDecidable
theorem LkR.sum {N : Nat} {χ : Nat → Nat} {xs : List Int} (h : LkR N χ xs) : sumN (nth xs) (7 * N) = sumN (corS χ) N := by
 rw [sN_block]
 refine sumN_congr fun t ht => ?_
 have t0 := h.tri t 0 ht (by omega); have t1 := h.tri t 1 ht (by omega); have t2 := h.tri t 2 ht (by omega); have t3 := h.tri t 3 ht (by omega)
 have q0 := h.quad t 0 ht (by omega); have q1 := h.quad t 1 ht (by omega); have q2 := h.quad t 2 ht (by omega)
 simp only [sumN]
 unfold corS
 rw [show 7 * t + 4 + 0 = 7 * t + 4 by omega] at q0
 rw [show 7 * t + 4 + 1 = 7 * t + 5 by omega] at q1
 rw [show 7 * t + 4 + 2 = 7 * t + 6 by omega] at q2
 omega
theorem sN_rng {f : Nat → Int} {M : Int} : ∀ {n : Nat}, (∀ i, i < n → 0 ≤ f i ∧ f i ≤ M) → 0 ≤ sumN f n ∧ sumN f n ≤ n * M := by
 intro n
 induction n with
 | zero => intro _; simp [sumN]
 | succ n ih =>
  intro h
  have h1 := ih fun i hi => h i (by omega)
  have h2 := h n (by omega)
  simp only [sumN]
  push_cast
  rw [Int.add_mul]
  omega
theorem wtE_le {N : Nat} {χ : Nat → Nat} (h : ∀ u, u < 4 * N → χ u ≤ 1) {u : Nat} (hu : u < 6 * N) : wtE χ u ≤ 2 := by
 obtain ⟨d1, d2, _⟩ := ed_lt (u % 6) (Nat.mod_lt _ (by omega))
 have h1 := h (4 * (u / 6) + edA (u % 6)) (by omega)
 have h2 := h (4 * (u / 6) + edB (u % 6)) (by omega)
 unfold wtE; omega
noncomputable def facA (e : Nat → Nat → Nat × Bool) (χ : Nat → Nat) (x : Nat) : Int := if x < tauF e x then (arcS χ (x / 4) (x % 4) 4 : Int) else 0
variable {E : Env} (hE : OE E)
include hE
set_option maxHeartbeats 2000000 in
theorem euler_ {h0 : List O} {a a' : Option Addr} {N c c' : Nat} {e : Nat → Nat → Nat × Bool} {χ : Nat → Nat} {xs : List Int} (hg : GluP h0 a N e) (hU : GlU N e) (hN : N ≤ 60) (hl : LisP h0 a' (7 * N) xs) (hx : LkR N χ xs) (hC : ClsInv N e χ) :
  DC E 34 [.agg #[.slice a N c], .slice a' (7 * N) c'] ⟨h0, h0.length⟩ fun o st' => ∃ (cls ys ws : List Int) (cnt : Nat), o = .ret (.tuple #[.int .i64 (sumN (nth ws) cnt - sumN (facA e χ) (4 * N) + sumN (nth xs) (7 * N)), .int .i64 0]) ∧ st' = ⟨h0, h0.length⟩ ∧
   WtsP χ ys cnt (6 * N) ws ∧ NumI cls ys (6 * N) (6 * N) cnt ∧ ∀ a b, a < 6 * N → b < 6 * N → (nth cls a = nth cls b ↔ VC (nbK e) a b) := by
 refine hE.fnC (body := rb34) rfl ?_
 unfold rb34
 have hwts := fun H (hs : Sub h0 H) => weights_ hE (c := c) (c' := c') (hg.sub hs) hU hN (hl.sub hs) hx hC
 have hN0 : 0 < N := hg.1
 obtain ⟨_, _, fb, cs, el, own, rfl, hfb, hF⟩ := hg
 obtain ⟨hB, hhB⟩ : ∃ H, H = h0 ++ [O.cells [.slice (some ⟨fb, 0, none⟩) N c] 29 (some 0)] := ⟨_, rfl⟩
 have lB : hB.length = h0.length + 1 := by rw [hhB]; simp
 have sB : Sub h0 hB := by rw [hhB]; exact (Sub.refl _).app _
 have bB : hB[h0.length]? = some (O.cells [.slice (some ⟨fb, 0, none⟩) N c] 29 (some 0)) := by rw [hhB, app_at0]; rfl
 have fB := sB _ _ hfb
 have hB1 := hwts hB sB
 simp [List.append_assoc, rd_at0, ↓← hhB, rd_def, rdN_def, ↓bB]
 refine hB1.imp ?_
 rintro o ⟨h1, f1⟩ ⟨b, cls, ys, ws, cnt, rfl, hf1, hs1, hat, hW, hI, hcnt, hcl⟩
 simp only at hf1 hs1 hat
 unfold AtB at hat
 have hj1 : joined ⟨hB, h0.length⟩ ⟨h1, f1⟩ = ⟨h1, h0.length⟩ := by
  simp only [joined]
  split
  ·congr 1; omega
  ·rfl
 have ls1 := hs1.len
 have bB1 := hs1 _ _ bB
 have fB1 := hs1 _ _ fB
 have hwr : ∀ k, k < cnt → 0 ≤ nth ws k ∧ nth ws k ≤ 2 := fun k hk => by
  obtain ⟨u0, k1, k2, _⟩ := hI.ord k hk
  obtain ⟨u, h1, h2, h3⟩ := hW.2 k hk ⟨u0, k1, k2⟩
  have := wtE_le hx.one h1
  omega
 have hfr : ∀ x, x < 4 * N → 0 ≤ facA e χ x ∧ facA e χ x ≤ 4 := fun x hx' => by
  have := arcS_le (f := x % 4) hx.one (show x / 4 < N by omega) 4 (by omega)
  unfold facA
  split <;> omega
 have hxr : ∀ i, 0 ≤ nth xs i ∧ nth xs i ≤ 1 := hx.rng
 have hA := fun i (hi : i ≤ cnt) => sN_rng (n := i) (M := 2) fun k hk => hwr k (by omega)
 have hFs := fun i (hi : i ≤ 4 * N) => sN_rng (n := i) (M := 4) fun k hk => hfr k (by omega)
 have hXs := fun i => sN_rng (f := nth xs) (n := i) (M := 1) fun k _ => hxr k
 have hwl := hW.1
 simp [hj1]
 refine DW_loop (fun kk fr st => ∃ (i : Nat), i + kk = cnt ∧ st = ⟨h1, h0.length⟩ ∧ get fr 1 = .slice a' (7 * N) c' ∧ get fr 2 = .pointer (some ⟨h0.length, 0, none⟩) ∧ get fr 6 = .slice (some ⟨b, 0, none⟩) cnt cnt ∧ get fr 8 = .int .i64 (sumN (nth ws) i) ∧ get fr 9 = .int .i64 i) ?_ (k := cnt) ?_
 ·rintro kk fr st ⟨i, hik, rfl, g1, g2, g6, g8, g9⟩
  by_cases hi : i < cnt
  ·have hw : IntKind.i64.wrap ((i : Int) + 1) = (i : Int) + 1 := by rw [w64_id] <;> omega
   have e1 := hA i (by omega)
   have e2 := hA (i + 1) (by omega)
   have es : sumN (nth ws) i + nth ws i = sumN (nth ws) (i + 1) := rfl
   obtain ⟨S, hS⟩ : ∃ S, S = sumN (nth ws) (i + 1) := ⟨_, rfl⟩
   rw [← hS] at es e2
   have w1 : IntKind.i64.wrap (sumN (nth ws) i + nth ws i) = S := by rw [es, w64_id] <;> omega
   have hil : i < ws.length := by omega
   simp [g1, g2, g6, g8, g9, hi, rd_def, ↓hat, intsC_get hil, w1, hw]
   exact ⟨kk - 1, by omega, i + 1, by omega, hS, by omega⟩
  ·have hic : i = cnt := by omega
   subst hic
   obtain ⟨A, hAd⟩ : ∃ A, A = sumN (nth ws) i := ⟨_, rfl⟩
   have hA0 := hA i (by omega)
   rw [← hAd] at g8 hA0
   simp [g1, g2, g6, g8, g9]
   refine DW_loop (fun kk fr st => ∃ (t : Nat) (h : List O), t + kk = N ∧ st = ⟨h, h0.length⟩ ∧ Sub h1 h ∧ get fr 1 = .slice a' (7 * N) c' ∧ get fr 2 = .pointer (some ⟨h0.length, 0, none⟩) ∧ get fr 8 = .int .i64 (A - sumN (facA e χ) (4 * t)) ∧ get fr 10 = .int .i64 t) ?_ (k := N) ?_
   ·clear g1 g2 g6 g8 g9
    rintro kk fr st ⟨t, h, htk, rfl, hs, g1, g2, g8, g10⟩
    have hb := hs _ _ bB1
    by_cases ht : t < N
    ·have hwt : IntKind.i64.wrap ((t : Int) + 1) = (t : Int) + 1 := by rw [w64_id] <;> omega
     simp [g1, g2, g8, g10, rd_def, ↓hb, ht]
     refine DW_loop (fun kk2 fr st => ∃ (f : Nat) (h : List O), f + kk2 = 4 ∧ st = ⟨h, h0.length⟩ ∧ Sub h1 h ∧ get fr 1 = .slice a' (7 * N) c' ∧ get fr 2 = .pointer (some ⟨h0.length, 0, none⟩) ∧ get fr 8 = .int .i64 (A - sumN (facA e χ) (4 * t + f)) ∧ get fr 10 = .int .i64 t ∧ get fr 11 = .int .i64 f) ?_ (k := 4) ?_
     ·clear g1 g2 g8 g10 hb hs
      clear h
      rintro kk2 fr st ⟨f, h, hfk, rfl, hs, g1, g2, g8, g10, g11⟩
      have hb := hs _ _ bB1
      have hfbh := hs _ _ fB1
      by_cases hf : f < 4
      ·have hf' : (f : Int) < 4 := by omega
       have hwf : IntKind.i64.wrap ((f : Int) + 1) = (f : Int) + 1 := by rw [w64_id] <;> omega
       obtain ⟨x, hx'⟩ : ∃ x, x = e t f := ⟨_, rfl⟩
       obtain ⟨x1, x2, _⟩ := face_at hF ht hf
       rw [← hx'] at x1
       obtain ⟨h2, hh2⟩ : ∃ H, H = h ++ [O.cells (faceL x) 99 (some 0)] := ⟨_, rfl⟩
       have s2 : Sub h h2 := by rw [hh2]; exact (Sub.refl _).app _
       have v2 : h2[h.length]? = some (O.cells (faceL x) 99 (some 0)) := by rw [hh2, app_at0]; rfl
       have lsh := hs.len
       have hm0 : min h0.length h.length = h0.length := by omega
       have hPf := faceL_P x hf
       have hpf := pm_lt x.2 hf
       simp only [faceL] at x1 hh2 v2 hPf
       have c0 : ¬ (x.1 : Int) < 0 := by omega
       have har := arcs_ hE (h := h2) (c := c') (hl.sub (sB.trans (hs1.trans (hs.trans s2)))) hx ht (by omega) hf
       have hj2 : joined ⟨h2, h0.length⟩ ⟨h2, h2.length⟩ = ⟨h2, h0.length⟩ := joined_mk _ _
       have hτ : tauF e (4 * t + f) = 4 * x.1 + pm x.2 f := by
        unfold tauF
        rw [show (4 * t + f) / 4 = t by omega, show (4 * t + f) % 4 = f by omega, ← hx']
       have es : sumN (facA e χ) (4 * t + (f + 1)) = sumN (facA e χ) (4 * t + f) + facA e χ (4 * t + f) := rfl
       have e1 := hFs (4 * t + f) (by omega)
       have e2 := hFs (4 * t + (f + 1)) (by omega)
       by_cases hcount : 4 * t + f < tauF e (4 * t + f)
       ·have hfa : facA e χ (4 * t + f) = (arcS χ t f 4 : Int) := by
         unfold facA
         rw [if_pos hcount, show (4 * t + f) / 4 = t by omega, show (4 * t + f) % 4 = f by omega]
        rw [hfa] at es
        obtain ⟨r, hr⟩ : ∃ r, r = arcS χ t f 4 := ⟨_, rfl⟩
        rw [← hr] at es har
        obtain ⟨S, hS⟩ : ∃ S, S = sumN (facA e χ) (4 * t + f) := ⟨_, rfl⟩
        rw [← hS] at es e1 g8
        have w1 : IntKind.i64.wrap (A - S - (r : Int)) = A - S - r := by rw [w64_id] <;> omega
        by_cases c1 : t < x.1
        ·simp [g1, g2, g8, g10, g11, hf', rd_def, rdN_def, ↓hb, ↓hfbh, ht, x1, x2, wrN_at0, set_at0, ↓← hh2, hm0, ↓v2, c0, c1, DC_of har, hj2, w1, hwf]
         exact ⟨kk2 - 1, by omega, f + 1, by omega, hs.trans s2, by rw [es]; omega, by omega⟩
        ·have c2 : x.1 = t := by omega
         have c3 : f < pm x.2 f := by omega
         simp [g1, g2, g8, g10, g11, hf', rd_def, rdN_def, ↓hb, ↓hfbh, ht, x1, x2, wrN_at0, set_at0, ↓← hh2, hm0, ↓v2, c0, c1, eq_true c2, hPf, c3, DC_of har, hj2, w1, hwf]
         exact ⟨kk2 - 1, by omega, f + 1, by omega, hs.trans s2, by rw [es]; omega, by omega⟩
       ·have hfa : facA e χ (4 * t + f) = 0 := by
         unfold facA
         rw [if_neg hcount]
        rw [hfa] at es
        have c1 : ¬ t < x.1 := by omega
        by_cases c2 : x.1 = t
        ·have c3 : ¬ f < pm x.2 f := by omega
         simp [g1, g2, g8, g10, g11, hf', rd_def, rdN_def, ↓hb, ↓hfbh, ht, x1, x2, wrN_at0, set_at0, ↓← hh2, hm0, ↓v2, c0, c1, eq_true c2, hPf, c3, hwf]
         exact ⟨kk2 - 1, by omega, f + 1, by omega, hs.trans s2, by rw [es]; omega, by omega⟩
        ·simp [g1, g2, g8, g10, g11, hf', rd_def, rdN_def, ↓hb, ↓hfbh, ht, x1, x2, wrN_at0, set_at0, ↓← hh2, hm0, ↓v2, c0, c1, c2, hwf]
         exact ⟨kk2 - 1, by omega, f + 1, by omega, hs.trans s2, by rw [es]; omega, by omega⟩
      ·have hf4 : f = 4 := by omega
       subst hf4
       simp [g1, g2, g8, g10, g11, hwt]
       exact ⟨kk - 1, by omega, t + 1, by omega, hs, by rw [show 4 * (t + 1) = 4 * t + 4 by omega], by omega⟩
     ·exact ⟨0, h, by omega, rfl, hs, by simp [g1, g2, g8, g10]⟩
    ·have htN : t = N := by omega
     subst htN
     have hFt := hFs (4 * t) (by omega)
     obtain ⟨S, hS⟩ : ∃ S, S = sumN (facA e χ) (4 * t) := ⟨_, rfl⟩
     rw [← hS] at g8 hFt
     simp [g1, g2, g8, g10, rd_def, ↓hb]
     obtain ⟨K, hK⟩ : ∃ K, K = 7 * t := ⟨_, rfl⟩
     rw [← hK] at g1 hl ⊢
     refine DW_loop (fun kk fr st => ∃ (i : Nat), i + kk = K ∧ st = ⟨h, h0.length⟩ ∧ get fr 1 = .slice a' K c' ∧ get fr 8 = .int .i64 (A - S + sumN (nth xs) i) ∧ get fr 13 = .int .i64 i) ?_ (k := K) ?_
     ·clear g1 g2 g8 g10
      rintro kk fr st ⟨i, hik, rfl, g1, g8, g13⟩
      by_cases hi : i < K
      ·have hw : IntKind.i64.wrap ((i : Int) + 1) = (i : Int) + 1 := by rw [w64_id] <;> omega
       have e1 := hXs i
       have e2 := hXs (i + 1)
       have es : sumN (nth xs) (i + 1) = sumN (nth xs) i + nth xs i := rfl
       obtain ⟨b', el', own', rfl, hb', hl1⟩ := lis_get hl hi
       have hb'' := hs _ _ (hs1 _ _ (sB _ _ hb'))
       have e3 := hxr i
       obtain ⟨X, hX⟩ : ∃ X, X = sumN (nth xs) i := ⟨_, rfl⟩
       rw [← hX] at g8 es e1
       have w1 : IntKind.i64.wrap (A - S + X + nth xs i) = A - S + X + nth xs i := by rw [w64_id] <;> omega
       simp [g1, g8, g13, hi, rd_def, ↓hb'', intsC_get hl1, w1, hw]
       exact ⟨kk - 1, by omega, i + 1, by omega, by rw [es]; omega, by omega⟩
      ·have hiK : i = K := by omega
       subst hiK
       simp [g1, g8, g13]
       unfold pairQ back
       rw [if_pos (by simp [Out.scalar, scalar, flat1, flat])]
       exact ⟨cls, ys, ws, _, by rw [hAd, hS], rfl, hW, hI, hcl⟩
     ·exact ⟨0, by omega, rfl, by simp [g1, g8, sumN]⟩
   ·exact ⟨0, h1, by omega, rfl, Sub.refl _, by simp [g1, g2, g8, sumN]⟩
 ·exact ⟨0, by omega, rfl, by simp [sumN]⟩
end Go.Proofs.Ytjlkndkedknocaa
namespace Go.Proofs.Ytjlkndkedknocaa
open Go Go.Ai
attribute [local instance] Classical.propDecidable
def mkO (bs : List Bool) : List Int := bs.map fun b => if b then 0 else -1
theorem mkO_len (bs : List Bool) : (mkO bs).length = bs.length := by simp [mkO]
theorem mkO_nth {bs : List Bool} {i : Nat} (hi : i < bs.length) : nth (mkO bs) i = if bnth bs i then 0 else -1 := by
 simp [mkO, Ai.nth, bnth, hi]
theorem mkO_set (bs : List Bool) (i : Nat) : (mkO bs).set i 0 = mkO (bs.set i true) := by simp [mkO, List.map_set]
theorem ints_ext {xs ys : List Int} (hl : xs.length = ys.length) (h : ∀ j, j < xs.length → nth xs j = nth ys j) : xs = ys := by
 refine List.ext_getElem hl fun j h1 h2 => ?_
 have := h j h1
 simpa [Ai.nth, h1, h2] using this
theorem bnth_false (N i : Nat) : bnth (List.replicate N false) i = false := by
 by_cases h : i < N <;> simp [bnth, List.getElem?_replicate, h]
structure PaI (H h : List O) (P N : Nat) (bs : List Bool) : Prop where
 keep : ∀ (b : Nat) (o : O), H[b]? = some o → b ≠ P → h[b]? = some o
 out : h[P]? = some (.cells (intsC (mkO bs)) 3 (some 0))
 len : bs.length = N
 le : H.length ≤ h.length
structure PaQ (H h : List O) (N k f qb : Nat) (nb : Nat → Nat → Option Nat) (bs : List Bool) (qs : List Nat) : Prop where
 q : CQ N nb 0 k f (List.replicate N false) bs qs
 own : OwnT h H.length (.slice (some ⟨qb, 0, none⟩) qs.length qs.length) qs.length (natsC qs) 3 1
 cnt : qs.length + unm bs ≤ N
 hd : bnth bs 0 = true
variable {E : Env} (hE : OE E)
include hE
theorem partsG_ {h : List O} {a : Option Addr} {N c : Nat} {e : Nat → Nat → Nat × Bool} (hg : GluP h a N e) (hU : GlU N e) :
  DC E 29 [.agg #[.slice a N c]] ⟨h, h.length⟩ fun o st' => ∃ P, o = .ret (.tuple #[.slice (some ⟨P, 0, none⟩) N N, .int .i64 0]) ∧ h.length ≤ P ∧ h.length ≤ st'.fl ∧ Sub h st'.h ∧ st'.h[P]? = some (.cells (intsC (List.replicate N 0)) 3 (some 0)) := by
 refine hE.fnC (body := rb29) rfl ?_
 unfold rb29
 have hchk := fun H (hs : Sub h H) => checkG_ hE (c := c) (hg.sub hs) hU
 obtain ⟨hN0, hN, bb, cs, el, own, rfl, hbb, hF⟩ := hg
 obtain ⟨hB, hhB⟩ : ∃ H, H = h ++ [O.cells [.slice (some ⟨bb, 0, none⟩) N c] 29 (some 0)] := ⟨_, rfl⟩
 have hBs : Sub h hB := by rw [hhB]; exact (Sub.refl _).app _
 have b0 : hB[h.length]? = some (O.cells [.slice (some ⟨bb, 0, none⟩) N c] 29 (some 0)) := by rw [hhB, app_at0]; rfl
 have b1 := hBs _ _ hbb
 have lB : hB.length = h.length + 1 := by rw [hhB]; simp
 have e1 : (N : Int) * 8 ≤ 140737488355328 := by omega
 have e2 : (N : Int) < 4611686018427387904 := by omega
 have hck := hchk hB hBs
 have hj : joined ⟨hB, h.length⟩ ⟨hB, hB.length⟩ = ⟨hB, h.length⟩ := joined_mk _ _
 have hrep : rep N [Value.int .i64 0] = intsC (List.replicate N 0) := by
  simp [rep, intsC]
 simp [List.append_assoc, rd_at0, ↓← hhB, rd_def, ↓b0, rdN_def, DC_of hck, hj, e1, e2, hrep]
 obtain ⟨P, hP⟩ : ∃ P, P = hB.length := ⟨_, rfl⟩
 obtain ⟨H, hH⟩ : ∃ H, H = hB ++ [O.cells (intsC (List.replicate N 0)) 3 (some 0)] := ⟨_, rfl⟩
 have hs1 : Sub hB H := by rw [hH]; exact (Sub.refl _).app _
 have lH : H.length = P + 1 := by rw [hH, hP]; simp
 have hHP : H[P]? = some (O.cells (intsC (List.replicate N 0)) 3 (some 0)) := by rw [hH, hP, app_at0]; rfl
 have c0 := hs1 _ _ b0
 have c1 := hs1 _ _ b1
 have nP0 : h.length ≠ P := by omega
 have nP1 : bb ≠ P := by have := (List.getElem?_eq_some_iff.1 b1).1; omega
 have hmP : min h.length P = h.length := by omega
 rw [← hH, ← hP]
 refine DW_loop (fun kk fr st => ∃ (i : Nat) (h' : List O) (xs : List Int), i + kk = N ∧ st = ⟨h', h.length⟩ ∧ xs.length = N ∧ (∀ j, j < i → nth xs j = -1) ∧ (∀ (b : Nat) (o : O), H[b]? = some o → b ≠ P → h'[b]? = some o) ∧ h'[P]? = some (.cells (intsC xs) 3 (some 0)) ∧ h'.length = H.length ∧
  get fr 1 = .pointer (some ⟨h.length, 0, none⟩) ∧ get fr 4 = .slice (some ⟨P, 0, none⟩) N N ∧ get fr 5 = .int .i64 i) ?_ (k := N) ?_
 ·rintro kk fr st ⟨i, h', xs, hik, rfl, hl, hx, hk, hat, hlen, g1, g4, g5⟩
  by_cases hi : i < N
  ·have hw : IntKind.i64.wrap ((i : Int) + 1) = (i : Int) + 1 := by rw [w64_id] <;> omega
   have hi2 : i < xs.length := by omega
   have hi3 : i + 1 ≤ xs.length := by omega
   simp [g1, g4, g5, hi, ↓hat, wrN_def, hi3, hmP, hw, intsC_set]
   refine ⟨kk - 1, by omega, i + 1, by omega, xs.set i (-1), by simp [hl], fun j hj => ?_, fun b o hb hne => set_ne (hk b o hb hne) hne, set_self hat, hlen, by omega⟩
   rw [nth_set hi2]
   split
   ·rfl
   ·exact hx j (by omega)
  ·have hxs : xs = mkO (List.replicate N false) := by
    refine ints_ext (by simp [mkO, hl]) fun j hj => ?_
    rw [hx j (by omega), mkO_nth (by simp; omega), bnth_rep (by omega)]
    simp
   subst hxs
   simp [g1, g4, g5, hi]
   refine DW_loop (fun kk fr st => ∃ (t : Nat) (h' : List O) (bs : List Bool), t + kk = N ∧ st = ⟨h', h.length⟩ ∧ PaI H h' P N bs ∧ (t = 0 → bs = List.replicate N false ∧ get fr 6 = .int .i64 0) ∧ (0 < t → ∀ i, i < N → bnth bs i = true) ∧
    get fr 1 = .pointer (some ⟨h.length, 0, none⟩) ∧ get fr 4 = .slice (some ⟨P, 0, none⟩) N N ∧ get fr 7 = .int .i64 t) ?_ (k := N) ?_
   ·clear g1 g4 g5 hat hlen hk hx hl
    clear h'
    rintro kk fr st ⟨t, h', bs, htk, rfl, hI, hz, hp, g1, g4, g7⟩
    have hat := hI.out
    have hbl := hI.len
    by_cases ht : t < N
    ·have hw : IntKind.i64.wrap ((t : Int) + 1) = (t : Int) + 1 := by rw [w64_id] <;> omega
     have hgt : t < (mkO bs).length := by rw [mkO_len]; omega
     by_cases ht0 : 0 < t
     ·have hv : nth (mkO bs) t = 0 := by rw [mkO_nth (by omega), hp ht0 t ht]; rfl
      simp [g1, g4, g7, ht, rd_def, ↓hat, intsC_get hgt, hv, hw]
      exact ⟨kk - 1, by omega, t + 1, by omega, bs, hI, fun h => by omega, fun _ => hp ht0, by omega⟩
     ·obtain rfl : t = 0 := by omega
      obtain ⟨rfl, g6⟩ := hz rfl
      have hv : nth (mkO (List.replicate N false)) 0 = -1 := by rw [mkO_nth (by simp; omega), bnth_rep (by omega)]; rfl
      have hPl := (List.getElem?_eq_some_iff.1 hat).1
      obtain ⟨H2, hH2⟩ : ∃ H2, H2 = h' ++ [O.cells [Value.int .i64 0] 3 (some 0)] := ⟨_, rfl⟩
      have s2 : Sub h' H2 := by rw [hH2]; exact (Sub.refl _).app _
      have q2 : H2[h'.length]? = some (O.cells [Value.int .i64 0] 3 (some 0)) := by rw [hH2, app_at0]; rfl
      have l2 : H2.length = h'.length + 1 := by rw [hH2]; simp
      have a2 := s2 _ _ hat
      have hgt1 : 1 ≤ (mkO (List.replicate N false)).length := by omega
      obtain ⟨H3, hH3⟩ : ∃ H3, H3 = H2.set P (O.cells (intsC (mkO ((List.replicate N false).set 0 true))) 3 (some 0)) := ⟨_, rfl⟩
      have a3 : H3[P]? = some (O.cells (intsC (mkO ((List.replicate N false).set 0 true))) 3 (some 0)) := by rw [hH3]; exact set_self a2
      have q3 : H3[h'.length]? = some (O.cells [Value.int .i64 0] 3 (some 0)) := by rw [hH3]; exact set_ne q2 (by omega)
      have l3 : H3.length = h'.length + 1 := by rw [hH3]; simp [l2]
      have hi3 : intsC (mkO ((List.replicate N false).set 0 true)) = (intsC (mkO (List.replicate N false))).set 0 (.int .i64 0) := by rw [intsC_set, mkO_set]
      rw [hi3] at hH3
      have I3 : PaI H H3 P N ((List.replicate N false).set 0 true) := ⟨fun b o hb hne => by rw [hH3]; exact set_ne (s2 _ _ (hI.keep b o hb hne)) hne, a3, by simp, by have := hI.le; omega⟩
      have Q3 : PaQ H H3 N 0 0 h'.length (nbE e) ((List.replicate N false).set 0 true) [0] := by
       refine ⟨CQ.start CB.start hN0, .inr ⟨by simp [natsC], .inr ⟨h'.length, 0, rfl, hI.le, q3, .inl rfl⟩⟩, ?_, ?_⟩
       ·have := unm_set (bs := List.replicate N false) (i := 0) (by simp; omega) (bnth_rep (by omega))
        have := unm_le (List.replicate N false)
        simp only [List.length_replicate, List.length_singleton] at *
        omega
       ·rw [bnth_set (by simp; omega), if_pos rfl]
      simp [g1, g4, g6, g7, ht, rd_def, ↓hat, intsC_get hgt, hv, hw, ↓← hH2, wrN_def, ↓a2, hgt1, ↓← hH3, hmP]
      refine DW_loop (fun kk2 fr st => ∃ (k2 : Nat) (h' : List O) (bs : List Bool) (qs : List Nat) (qb : Nat), k2 + kk2 = N ∧ st = ⟨h', h.length⟩ ∧ PaI H h' P N bs ∧ PaQ H h' N k2 0 qb (nbE e) bs qs ∧ k2 ≤ qs.length ∧
       get fr 1 = .pointer (some ⟨h.length, 0, none⟩) ∧ get fr 4 = .slice (some ⟨P, 0, none⟩) N N ∧ get fr 6 = .int .i64 0 ∧ get fr 7 = .int .i64 0 ∧ get fr 8 = .slice (some ⟨qb, 0, none⟩) qs.length qs.length ∧ get fr 9 = .int .i64 k2) ?_ (k := N) ?_
      ·clear g1 g4 g6 g7 hI hat hPl hH2 s2 q2 l2 a2 hH3 a3 q3 l3 I3 Q3
       clear H2 H3 h'
       rintro kk2 fr st ⟨k2, h', bs, qs, qb, hkk, rfl, hI, hQ, hkq, g1, g4, g6, g7, g8, g9⟩
       have hcn := hQ.cnt
       by_cases hk2 : k2 < qs.length
       ·simp [g1, g4, g6, g7, g8, g9, hk2]
        refine DW_loop (fun kk3 fr st => ∃ (f : Nat) (h' : List O) (bs : List Bool) (qs : List Nat) (qb : Nat), f + kk3 = 4 ∧ st = ⟨h', h.length⟩ ∧ PaI H h' P N bs ∧ PaQ H h' N k2 f qb (nbE e) bs qs ∧ k2 < qs.length ∧
         get fr 1 = .pointer (some ⟨h.length, 0, none⟩) ∧ get fr 4 = .slice (some ⟨P, 0, none⟩) N N ∧ get fr 6 = .int .i64 0 ∧ get fr 7 = .int .i64 0 ∧ get fr 8 = .slice (some ⟨qb, 0, none⟩) qs.length qs.length ∧ get fr 9 = .int .i64 k2 ∧ get fr 10 = .int .i64 f) ?_ (k := 4) ?_
        ·clear g1 g4 g6 g7 g8 g9 hI hQ hcn hk2 hkq
         clear h' bs qs qb
         rintro kk3 fr st ⟨f, h', bs, qs, qb, hfk, rfl, hI, hQ, hk2, g1, g4, g6, g7, g8, g9, g10⟩
         have hcn := hQ.cnt
         by_cases hf : f < 4
         ·have hf' : (f : Int) < 4 := by omega
          have hwf : IntKind.i64.wrap ((f : Int) + 1) = (f : Int) + 1 := by rw [w64_id] <;> omega
          obtain ⟨u, hu⟩ : ∃ u, u = qn qs k2 := ⟨_, rfl⟩
          have huN := (hQ.q.inq u (by rw [hu]; exact qn_mem hk2)).1
          obtain ⟨qa, hqv, hqo⟩ := hQ.own.look
          obtain ⟨qb', qs', hqb, qlo, qat⟩ := hqo (by omega)
          cases hqv
          cases hqb
          have hqn := natsC_qn hk2
          rw [← hu] at hqn
          have hb0 := hI.keep _ _ c0 nP0
          have hb1 := hI.keep _ _ c1 nP1
          have hat := hI.out
          have hPl := (List.getElem?_eq_some_iff.1 hat).1
          obtain ⟨w, hwe⟩ : ∃ w, w = (e u f).1 := ⟨_, rfl⟩
          have f3 := (face_at hF huN hf).2.2
          rw [← hwe] at f3
          have hwN : w < N := by rw [hwe]; exact hU.lt u f huN hf
          have hwm : w < (mkO bs).length := by rw [mkO_len, hI.len]; exact hwN
          have hwb : w < bs.length := by rw [hI.len]; exact hwN
          have hnb : nbE e (qn qs k2) f = some w := by rw [← hu, hwe]; rfl
          have hv := mkO_nth hwb
          cases hbw : bnth bs w
          ·rw [hbw] at hv
           simp only [Bool.false_eq_true, if_false] at hv
           have hwm1 : w + 1 ≤ (mkO bs).length := by omega
           obtain ⟨bs', hbs'⟩ : ∃ bs', bs' = bs.set w true := ⟨_, rfl⟩
           obtain ⟨H4, hH4⟩ : ∃ H4, H4 = h'.set P (O.cells (intsC (mkO bs')) 3 (some 0)) := ⟨_, rfl⟩
           have a4 : H4[P]? = some (O.cells (intsC (mkO bs')) 3 (some 0)) := by rw [hH4]; exact set_self hat
           have K4 : ∀ (b : Nat) (o : O), h'[b]? = some o → b ≠ P → H4[b]? = some o := fun b o hb hne => by rw [hH4]; exact set_ne hb hne
           have l4 : H4.length = h'.length := by rw [hH4]; simp
           obtain ⟨H5, hH5⟩ : ∃ H5, H5 = H4 ++ [O.cells [Value.int .i64 w] 3 (some 0)] := ⟨_, rfl⟩
           have s5 : Sub H4 H5 := by rw [hH5]; exact (Sub.refl _).app _
           have l5 : H5.length = h'.length + 1 := by rw [hH5]; simp [l4]
           have ho5 : OwnT H5 H.length (.slice (some ⟨qb, 0, none⟩) qs.length qs.length) qs.length (natsC qs) 3 1 := hQ.own.keep fun b sz _ hlo hb => s5 _ _ (K4 _ _ hb (by omega))
           have hread : readSlice H5 1 1 (some ⟨H4.length, 0, none⟩) = some [.int .i64 w] := by rw [hH5]; simp [readSlice, rdN_at0]
           obtain ⟨b', H7, f7, hap, hb', hown, hf1, hf2, hL7, K7⟩ := append_T (fl := h.length) (c := 1) (bytes := 8) ho5 hread (by simp) rfl (by have := hI.le; omega) (by simp only [roomMax]; omega) (by omega)
           obtain rfl : f7 = h.length := by omega
           rw [l4] at hap
           have hunm := unm_set hwb hbw
           rw [← natsC_append] at hown
           have hle := hI.le
           have hq' := hQ.q.add hk2 hf hnb hwN
           rw [← hbs'] at hq' hunm
           have hd7 : bnth bs' 0 = true := by
            rw [hbs', bnth_set hwb]
            split
            ·rfl
            ·exact hQ.hd
           have Q7 : PaQ H H7 N k2 (f + 1) b' (nbE e) bs' (qs ++ [w]) := ⟨hq', by simpa using hown, by simp; omega, hd7⟩
           have I7 : PaI H H7 P N bs' := ⟨fun b o hb hne => K7 _ _ (s5 _ _ (K4 _ _ (hI.keep b o hb hne) hne)) (.inl (List.getElem?_eq_some_iff.1 hb).1), K7 _ _ (s5 _ _ a4) (.inl (by omega)), by rw [hbs']; simp [hI.len], by omega⟩
           have hset : (intsC (mkO bs)).set w (.int .i64 0) = intsC (mkO bs') := by rw [intsC_set, mkO_set, hbs']
           simp [g1, g4, g6, g7, g8, g9, g10, hf', hk2, rd_def, ↓qat, hqn, huN, ↓hb0, ↓hb1, f3, hwN, ↓hat, intsC_get hwm, hv, wrN_def, hwm1, hset, ↓← hH4, l4, ↓← hH5, hap, hmP, hwf]
           exact ⟨kk3 - 1, by omega, f + 1, by omega, bs', I7, qs ++ [w], b', Q7, by simp; omega, ⟨rfl, by simp⟩, by omega⟩
          ·rw [hbw] at hv
           simp only [if_true] at hv
           simp [g1, g4, g6, g7, g8, g9, g10, hf', hk2, rd_def, ↓qat, hqn, huN, ↓hb0, ↓hb1, f3, hwN, ↓hat, intsC_get hwm, hv, hwf]
           exact ⟨kk3 - 1, by omega, f + 1, by omega, bs, hI, qs, qb, ⟨hQ.q.pass fun w' hw' => by rw [hnb] at hw'; obtain rfl := Option.some.inj hw'; exact hbw, hQ.own, hQ.cnt, hQ.hd⟩, hk2, ⟨rfl, rfl⟩, by omega⟩
         ·obtain rfl : f = 4 := by omega
          have hwk : IntKind.i64.wrap ((k2 : Int) + 1) = (k2 : Int) + 1 := by rw [w64_id] <;> omega
          simp [g1, g4, g6, g7, g8, g9, g10, hwk]
          exact ⟨kk2 - 1, by omega, k2 + 1, by omega, bs, hI, qs, qb, ⟨hQ.q.next, hQ.own, hQ.cnt, hQ.hd⟩, hk2, ⟨rfl, rfl⟩, by omega⟩
        ·exact ⟨0, h', bs, qs, qb, by omega, rfl, hI, hQ, hk2, by simp [g1, g4, g6, g7, g8, g9]⟩
       ·have hall := fun i hi => (CQ.all hQ.q (by omega) hN0 (fun i => bnth_false N i) hQ.hd (fun u f w hu hf hw => by obtain rfl := Option.some.inj hw; exact hU.lt u f hu hf) i hi).2 (hU.conn i hi)
        have w1 : IntKind.i64.wrap 1 = 1 := by decide
        simp [g1, g4, g6, g7, g8, g9, hk2, w1]
        exact ⟨kk - 1, by omega, 1, by omega, bs, hI, fun h => by omega, fun _ => hall, rfl⟩
      ·exact ⟨0, H3, _, [0], h'.length, by omega, rfl, I3, Q3, by simp, by simp [g1, g4, g6, g7]⟩
    ·have htN : t = N := by omega
     have hbs : mkO bs = List.replicate N 0 := by
      refine ints_ext (by simp [mkO_len, hbl]) fun j hj => ?_
      rw [mkO_len] at hj
      rw [mkO_nth hj, hp (by omega) j (by omega)]
      simp [Ai.nth, show j < N by omega]
     rw [hbs] at hat
     simp [g1, g4, g7, ht]
     unfold pairQ back
     rw [if_neg (by simp [Out.scalar, scalar, flat1, flat])]
     exact ⟨P, rfl, by omega, Nat.le_refl _, fun b o hb => hI.keep b o (hs1 _ _ (hBs _ _ hb)) (by have := (List.getElem?_eq_some_iff.1 hb).1; omega), hat⟩
   ·exact ⟨0, h', List.replicate N false, by omega, rfl, ⟨hk, hat, by simp, by omega⟩, fun _ => ⟨rfl, by simp⟩, fun h => by omega, by simp [g1, g4]⟩
 ·exact ⟨0, H, List.replicate N 0, by omega, rfl, by simp, fun j hj => by omega, fun b o hb _ => hb, hHP, rfl, by simp⟩
end Go.Proofs.Ytjlkndkedknocaa
namespace Go.Proofs.Ytjlkndkedknocaa
open Go Go.Ai
attribute [local instance] Classical.propDecidable
def sgnB (sw : Bool) : Int := if sw then -1 else 1
def mkS (σ : Nat → Int) (bs : List Bool) : List Int := (List.range bs.length).map fun i => if bnth bs i then σ i else 0
theorem mkS_len (σ : Nat → Int) (bs : List Bool) : (mkS σ bs).length = bs.length := by simp [mkS]
theorem mkS_nth {σ : Nat → Int} {bs : List Bool} {i : Nat} (hi : i < bs.length) : nth (mkS σ bs) i = if bnth bs i then σ i else 0 := by
 simp [mkS, Ai.nth, hi]
theorem mkS_set (σ : Nat → Int) {bs : List Bool} {w : Nat} (hw : w < bs.length) : (mkS σ bs).set w (σ w) = mkS σ (bs.set w true) := by
 refine ints_ext (by simp [mkS_len]) fun j hj => ?_
 simp [mkS_len] at hj
 rw [nth_set (by rw [mkS_len]; exact hw), mkS_nth hj, mkS_nth (bs := bs.set w true) (by simpa using hj), bnth_set hw]
 by_cases e : j = w
 ·simp [e]
 ·simp [e]
structure OriG (N : Nat) (e : Nat → Nat → Nat × Bool) (σ : Nat → Int) : Prop where
 one : ∀ t, σ t = 1 ∨ σ t = -1
 zero : σ 0 = 1
 face : ∀ t f, t < N → f < 4 → σ (e t f).1 = -(sgnB (e t f).2) * σ t
structure OrJ (H h : List O) (P N : Nat) (σ : Nat → Int) (bs : List Bool) : Prop where
 keep : ∀ (b : Nat) (o : O), H[b]? = some o → b ≠ P → h[b]? = some o
 out : h[P]? = some (.cells (intsC (mkS σ bs)) 3 (some 0))
 len : bs.length = N
 le : H.length ≤ h.length
variable {E : Env} (hE : OE E)
include hE
theorem signR_ {h : List O} (sw : Bool) : DR E 94 [permW (pm sw)] ⟨h, h.length⟩ (.ret (.int .i64 (sgnB sw))) ⟨h, h.length⟩ := by
 refine hE.fn (body := rb94) rfl ?_
 unfold rb94
 have w1 : IntKind.i64.wrap 1 = 1 := by decide
 have w2 : IntKind.i64.wrap 2 = 2 := by decide
 have w3 : IntKind.i64.wrap 3 = 3 := by decide
 have w4 : IntKind.i64.wrap 4 = 4 := by decide
 have wn : IntKind.i64.wrap (-1) = -1 := by decide
 have hv := fun h => validR_ hE (h := h) (p := pm sw) ⟨fun a ha => pm_lt sw ha, fun a b _ _ e => by rw [← pm_pm sw a, e, pm_pm]⟩
 cases sw
 all_goals
  simp [permW, permV, pm] at hv
  simp [permW, permV, pm, rdN_at0, List.append_assoc, DC_q hv, joined_fl, sgnB]
  repeat (rw [DW_loop_unfold]; simp [rd_at0, rd_at, w1, w2, w3, w4, wn, List.append_assoc, bit])
theorem orientG_ {h : List O} {a : Option Addr} {N c : Nat} {e : Nat → Nat → Nat × Bool} {σ : Nat → Int} (hg : GluP h a N e) (hU : GlU N e) (hO : OriG N e σ) :
  DC E 28 [.agg #[.slice a N c]] ⟨h, h.length⟩ fun o st' => ∃ v, o = .ret (.tuple #[v, .bool true, .int .i64 0]) ∧ h.length ≤ st'.fl ∧ Sub h st'.h := by
 refine hE.fnC (body := rb28) rfl ?_
 unfold rb28
 have hchk := fun H (hs : Sub h H) => checkG_ hE (c := c) (hg.sub hs) hU
 obtain ⟨hN0, hN, bb, cs, el, own, rfl, hbb, hF⟩ := hg
 obtain ⟨hB, hhB⟩ : ∃ H, H = h ++ [O.cells [.slice (some ⟨bb, 0, none⟩) N c] 29 (some 0)] := ⟨_, rfl⟩
 have hBs : Sub h hB := by rw [hhB]; exact (Sub.refl _).app _
 have b0 : hB[h.length]? = some (O.cells [.slice (some ⟨bb, 0, none⟩) N c] 29 (some 0)) := by rw [hhB, app_at0]; rfl
 have b1 := hBs _ _ hbb
 have lB : hB.length = h.length + 1 := by rw [hhB]; simp
 have e1 : (N : Int) * 8 ≤ 140737488355328 := by omega
 have e2 : (N : Int) < 4611686018427387904 := by omega
 have hck := hchk hB hBs
 have hj : joined ⟨hB, h.length⟩ ⟨hB, hB.length⟩ = ⟨hB, h.length⟩ := joined_mk _ _
 have hrep : rep N [Value.int .i64 0] = intsC (List.replicate N 0) := by
  simp [rep, intsC]
 simp [List.append_assoc, rd_at0, ↓← hhB, rd_def, ↓b0, rdN_def, DC_of hck, hj, e1, e2, hrep]
 obtain ⟨P, hP⟩ : ∃ P, P = hB.length := ⟨_, rfl⟩
 obtain ⟨H, hH⟩ : ∃ H, H = hB ++ [O.cells (intsC (List.replicate N 0)) 3 (some 0)] := ⟨_, rfl⟩
 have hs1 : Sub hB H := by rw [hH]; exact (Sub.refl _).app _
 have lH : H.length = P + 1 := by rw [hH, hP]; simp
 have hHP : H[P]? = some (O.cells (intsC (List.replicate N 0)) 3 (some 0)) := by rw [hH, hP, app_at0]; rfl
 have c0 := hs1 _ _ b0
 have c1 := hs1 _ _ b1
 have nP0 : h.length ≠ P := by omega
 have nP1 : bb ≠ P := by have := (List.getElem?_eq_some_iff.1 b1).1; omega
 have hmP : min h.length P = h.length := by omega
 rw [← hH, ← hP]
 have hz0 : List.replicate N 0 = mkS σ (List.replicate N false) := by
  refine ints_ext (by simp [mkS_len]) fun j hj => ?_
  simp at hj
  rw [mkS_nth (by simpa using hj), bnth_false]
  simp [Ai.nth, hj]
 rw [hz0] at hHP
 have hne : ∀ t, ¬ σ t = 0 := fun t => by rcases hO.one t with e | e <;> omega
 refine DW_loop (fun kk fr st => ∃ (t : Nat) (h' : List O) (bs : List Bool), t + kk = N ∧ st = ⟨h', h.length⟩ ∧ OrJ H h' P N σ bs ∧ (t = 0 → bs = List.replicate N false) ∧ (0 < t → ∀ i, i < N → bnth bs i = true) ∧
  get fr 1 = .pointer (some ⟨h.length, 0, none⟩) ∧ get fr 5 = .slice (some ⟨P, 0, none⟩) N N ∧ get fr 6 = .int .i64 t) ?_ (k := N) ?_
 ·rintro kk fr st ⟨t, h', bs, htk, rfl, hI, hz, hp, g1, g5, g6⟩
  have hat := hI.out
  have hbl := hI.len
  by_cases ht : t < N
  ·have hw : IntKind.i64.wrap ((t : Int) + 1) = (t : Int) + 1 := by rw [w64_id] <;> omega
   have hgt : t < (mkS σ bs).length := by rw [mkS_len]; omega
   by_cases ht0 : 0 < t
   ·have hv : nth (mkS σ bs) t = σ t := by rw [mkS_nth (by omega), hp ht0 t ht]; rfl
    simp [g1, g5, g6, ht, rd_def, ↓hat, intsC_get hgt, hv, hne, hw]
    exact ⟨kk - 1, by omega, t + 1, by omega, bs, hI, fun h => by omega, fun _ => hp ht0, by omega⟩
   ·obtain rfl : t = 0 := by omega
    obtain rfl := hz rfl
    have hv : nth (mkS σ (List.replicate N false)) 0 = 0 := by rw [mkS_nth (by simp; omega), bnth_rep (by omega)]; rfl
    have hPl := (List.getElem?_eq_some_iff.1 hat).1
    have hgt1 : 1 ≤ (mkS σ (List.replicate N false)).length := by omega
    obtain ⟨H1, hH1⟩ : ∃ H1, H1 = h'.set P (O.cells (intsC (mkS σ ((List.replicate N false).set 0 true))) 3 (some 0)) := ⟨_, rfl⟩
    have l1 : H1.length = h'.length := by rw [hH1]; simp
    have a1 : H1[P]? = some (O.cells (intsC (mkS σ ((List.replicate N false).set 0 true))) 3 (some 0)) := by rw [hH1]; exact set_self hat
    obtain ⟨H3, hH3⟩ : ∃ H3, H3 = H1 ++ [O.cells [Value.int .i64 0] 3 (some 0)] := ⟨_, rfl⟩
    have s3 : Sub H1 H3 := by rw [hH3]; exact (Sub.refl _).app _
    have q3 : H3[h'.length]? = some (O.cells [Value.int .i64 0] 3 (some 0)) := by rw [hH3, ← l1, app_at0]; rfl
    have l3 : H3.length = h'.length + 1 := by rw [hH3]; simp [l1]
    have hi3 : (intsC (mkS σ (List.replicate N false))).set 0 (.int .i64 1) = intsC (mkS σ ((List.replicate N false).set 0 true)) := by
     have := mkS_set σ (bs := List.replicate N false) (w := 0) (by simpa using hN0)
     rw [hO.zero] at this
     rw [intsC_set, this]
    have I3 : OrJ H H3 P N σ ((List.replicate N false).set 0 true) := ⟨fun b o hb hne => s3 _ _ (by rw [hH1]; exact set_ne (hI.keep b o hb hne) hne), s3 _ _ a1, by simp, by have := hI.le; omega⟩
    have Q3 : PaQ H H3 N 0 0 h'.length (nbE e) ((List.replicate N false).set 0 true) [0] := by
     refine ⟨CQ.start CB.start hN0, .inr ⟨by simp [natsC], .inr ⟨h'.length, 0, rfl, hI.le, q3, .inl rfl⟩⟩, ?_, ?_⟩
     ·have := unm_set (bs := List.replicate N false) (i := 0) (by simp; omega) (bnth_rep (by omega))
      have := unm_le (List.replicate N false)
      simp only [List.length_replicate, List.length_singleton] at *
      omega
     ·rw [bnth_set (by simp; omega), if_pos rfl]
    simp [g1, g5, g6, ht, rd_def, ↓hat, intsC_get hgt, hv, hw, wrN_def, hgt1, hi3, ↓← hH1, l1, ↓← hH3, hmP]
    refine DW_loop (fun kk2 fr st => ∃ (k2 : Nat) (h' : List O) (bs : List Bool) (qs : List Nat) (qb : Nat), k2 + kk2 = N ∧ st = ⟨h', h.length⟩ ∧ OrJ H h' P N σ bs ∧ PaQ H h' N k2 0 qb (nbE e) bs qs ∧ k2 ≤ qs.length ∧
     get fr 1 = .pointer (some ⟨h.length, 0, none⟩) ∧ get fr 5 = .slice (some ⟨P, 0, none⟩) N N ∧ get fr 6 = .int .i64 0 ∧ get fr 7 = .slice (some ⟨qb, 0, none⟩) qs.length qs.length ∧ get fr 8 = .int .i64 k2) ?_ (k := N) ?_
    ·clear g1 g5 g6 hI hat hPl hH1 l1 a1 hH3 s3 q3 l3 I3 Q3
     clear H1 H3 h'
     rintro kk2 fr st ⟨k2, h', bs, qs, qb, hkk, rfl, hI, hQ, hkq, g1, g5, g6, g7, g8⟩
     have hcn := hQ.cnt
     by_cases hk2 : k2 < qs.length
     ·simp [g1, g5, g6, g7, g8, hk2]
      refine DW_loop (fun kk3 fr st => ∃ (f : Nat) (h' : List O) (bs : List Bool) (qs : List Nat) (qb : Nat), f + kk3 = 4 ∧ st = ⟨h', h.length⟩ ∧ OrJ H h' P N σ bs ∧ PaQ H h' N k2 f qb (nbE e) bs qs ∧ k2 < qs.length ∧
       get fr 1 = .pointer (some ⟨h.length, 0, none⟩) ∧ get fr 5 = .slice (some ⟨P, 0, none⟩) N N ∧ get fr 6 = .int .i64 0 ∧ get fr 7 = .slice (some ⟨qb, 0, none⟩) qs.length qs.length ∧ get fr 8 = .int .i64 k2 ∧ get fr 9 = .int .i64 f) ?_ (k := 4) ?_
      ·clear g1 g5 g6 g7 g8 hI hQ hcn hk2 hkq
       clear h' bs qs qb
       rintro kk3 fr st ⟨f, h', bs, qs, qb, hfk, rfl, hI, hQ, hk2, g1, g5, g6, g7, g8, g9⟩
       have hcn := hQ.cnt
       by_cases hf : f < 4
       ·have hf' : (f : Int) < 4 := by omega
        have hwf : IntKind.i64.wrap ((f : Int) + 1) = (f : Int) + 1 := by rw [w64_id] <;> omega
        obtain ⟨u, hu⟩ : ∃ u, u = qn qs k2 := ⟨_, rfl⟩
        obtain ⟨_, hub, _⟩ := hQ.q.inq u (by rw [hu]; exact qn_mem hk2)
        have huN := (hQ.q.inq u (by rw [hu]; exact qn_mem hk2)).1
        obtain ⟨qa, hqv, hqo⟩ := hQ.own.look
        obtain ⟨qb', qs', hqb, qlo, qat⟩ := hqo (by omega)
        cases hqv
        cases hqb
        have hqn := natsC_qn hk2
        rw [← hu] at hqn
        have hb0 := hI.keep _ _ c0 nP0
        have hb1 := hI.keep _ _ c1 nP1
        have hat := hI.out
        have hPl := (List.getElem?_eq_some_iff.1 hat).1
        obtain ⟨x, hx⟩ : ∃ x, x = e u f := ⟨_, rfl⟩
        obtain ⟨x1, x2, _⟩ := face_at hF huN hf
        rw [← hx] at x1
        have hwN : x.1 < N := by rw [hx]; exact hU.lt u f huN hf
        have hwm : x.1 < (mkS σ bs).length := by rw [mkS_len, hI.len]; exact hwN
        have hum : u < (mkS σ bs).length := by rw [mkS_len, hI.len]; exact huN
        have hwb : x.1 < bs.length := by rw [hI.len]; exact hwN
        have hnb : nbE e (qn qs k2) f = some x.1 := by rw [← hu, hx]; rfl
        have hv := mkS_nth (σ := σ) hwb
        have hvu : nth (mkS σ bs) u = σ u := by rw [mkS_nth (by rw [hI.len]; exact huN), hub]; rfl
        have hfc : σ x.1 = -(sgnB x.2) * σ u := by rw [hx]; exact hO.face u f huN hf
        have hsb : sgnB x.2 = 1 ∨ sgnB x.2 = -1 := by unfold sgnB; split <;> simp
        have wn1 : IntKind.i64.wrap (-(sgnB x.2)) = -(sgnB x.2) := by rcases hsb with e | e <;> rw [e] <;> decide
        have wn2 : IntKind.i64.wrap (-(sgnB x.2) * σ u) = σ x.1 := by rw [hfc]; rcases hsb with e | e <;> rcases hO.one u with e' | e' <;> rw [e, e'] <;> decide
        obtain ⟨H1, hH1⟩ : ∃ H1, H1 = h' ++ [O.cells (faceL x) 99 (some 0)] := ⟨_, rfl⟩
        have t1 : Sub h' H1 := by rw [hH1]; exact (Sub.refl _).app _
        have v1 : H1[h'.length]? = some (O.cells (faceL x) 99 (some 0)) := by rw [hH1, app_at0]; rfl
        have l1 : H1.length = h'.length + 1 := by rw [hH1]; simp
        have hsg := signR_ hE (h := H1) x.2
        have hj1 : joined ⟨H1, h.length⟩ ⟨H1, H1.length⟩ = ⟨H1, h.length⟩ := joined_mk _ _
        have qat1 := t1 _ _ qat
        have hat1 := t1 _ _ hat
        have hle := hI.le
        have hm0 : min h.length h'.length = h.length := by omega
        have n1 : ¬ ((x.1 : Nat) : Int) < 0 := by omega
        simp only [permW, permV] at hsg
        simp only [faceL] at x1 hH1 v1
        cases hbw : bnth bs x.1
        ·rw [hbw] at hv
         simp only [Bool.false_eq_true, if_false] at hv
         have hwm1 : x.1 + 1 ≤ (mkS σ bs).length := by omega
         obtain ⟨bs', hbs'⟩ : ∃ bs', bs' = bs.set x.1 true := ⟨_, rfl⟩
         obtain ⟨H4, hH4⟩ : ∃ H4, H4 = H1.set P (O.cells (intsC (mkS σ bs')) 3 (some 0)) := ⟨_, rfl⟩
         have a4 : H4[P]? = some (O.cells (intsC (mkS σ bs')) 3 (some 0)) := by rw [hH4]; exact set_self hat1
         have K4 : ∀ (b : Nat) (o : O), h'[b]? = some o → b ≠ P → H4[b]? = some o := fun b o hb hne => by rw [hH4]; exact set_ne (t1 _ _ hb) hne
         have v4 : H4[h'.length]? = some (O.cells (faceL x) 99 (some 0)) := by rw [hH4]; exact set_ne v1 (by omega)
         simp only [faceL] at v4
         have l4 : H4.length = h'.length + 1 := by rw [hH4]; simp [l1]
         obtain ⟨H5, hH5⟩ : ∃ H5, H5 = H4 ++ [O.cells [Value.int .i64 x.1] 3 (some 0)] := ⟨_, rfl⟩
         have s5 : Sub H4 H5 := by rw [hH5]; exact (Sub.refl _).app _
         have l5 : H5.length = h'.length + 2 := by rw [hH5]; simp [l4]
         have ho5 : OwnT H5 H.length (.slice (some ⟨qb, 0, none⟩) qs.length qs.length) qs.length (natsC qs) 3 1 := hQ.own.keep fun b sz _ hlo hb => s5 _ _ (K4 _ _ hb (by omega))
         have hread : readSlice H5 1 1 (some ⟨H4.length, 0, none⟩) = some [.int .i64 x.1] := by rw [hH5]; simp [readSlice, rdN_at0]
         obtain ⟨b', H7, f7, hap, hb', hown, hf1, hf2, hL7, K7⟩ := append_T (fl := h.length) (c := 1) (bytes := 8) ho5 hread (by simp) rfl (by omega) (by simp only [roomMax]; omega) (by omega)
         obtain rfl : f7 = h.length := by omega
         rw [l4] at hap
         have hunm := unm_set hwb hbw
         rw [← natsC_append] at hown
         have hq' := hQ.q.add hk2 hf hnb hwN
         rw [← hbs'] at hq' hunm
         have hd7 : bnth bs' 0 = true := by
          rw [hbs', bnth_set hwb]
          split
          ·rfl
          ·exact hQ.hd
         have Q7 : PaQ H H7 N k2 (f + 1) b' (nbE e) bs' (qs ++ [x.1]) := ⟨hq', by simpa using hown, by simp; omega, hd7⟩
         have I7 : OrJ H H7 P N σ bs' := ⟨fun b o hb hne => K7 _ _ (s5 _ _ (K4 _ _ (hI.keep b o hb hne) hne)) (.inl (List.getElem?_eq_some_iff.1 hb).1), K7 _ _ (s5 _ _ a4) (.inl (by omega)), by rw [hbs']; simp [hI.len], by omega⟩
         have hset : (intsC (mkS σ bs)).set x.1 (.int .i64 (σ x.1)) = intsC (mkS σ bs') := by rw [intsC_set, mkS_set σ hwb, hbs']
         simp [g1, g5, g6, g7, g8, g9, hf', hk2, rd_def, rdN_def, ↓qat, hqn, huN, ↓hb0, ↓hb1, x1, x2, wrN_at0, set_at0, ↓← hH1, hm0, ↓v1, n1, ↓qat1, ↓hat1, intsC_get hum, hvu, DC_of hsg, hj1, wn1, wn2, hwN, intsC_get hwm, hv, wrN_def, hwm1, hset, ↓← hH4, ↓v4, l4, ↓← hH5, hap, hmP, hwf, bit]
         exact ⟨kk3 - 1, by omega, f + 1, by omega, bs', I7, qs ++ [x.1], b', Q7, by simp; omega, ⟨rfl, by simp⟩, by omega⟩
        ·rw [hbw] at hv
         simp only [if_true] at hv
         simp [g1, g5, g6, g7, g8, g9, hf', hk2, rd_def, rdN_def, ↓qat, hqn, huN, ↓hb0, ↓hb1, x1, x2, wrN_at0, set_at0, ↓← hH1, hm0, ↓v1, n1, ↓qat1, ↓hat1, intsC_get hum, hvu, DC_of hsg, hj1, wn1, wn2, hwN, intsC_get hwm, hv, hne, hwf, bit]
         exact ⟨kk3 - 1, by omega, f + 1, by omega, bs, ⟨fun b o hb n => t1 _ _ (hI.keep b o hb n), hat1, hI.len, by omega⟩, qs, qb, ⟨hQ.q.pass fun w' hw' => by rw [hnb] at hw'; obtain rfl := Option.some.inj hw'; exact hbw, hQ.own.keep fun b sz _ _ hb => t1 _ _ hb, hQ.cnt, hQ.hd⟩, hk2, ⟨rfl, rfl⟩, by omega⟩
       ·obtain rfl : f = 4 := by omega
        have hwk : IntKind.i64.wrap ((k2 : Int) + 1) = (k2 : Int) + 1 := by rw [w64_id] <;> omega
        simp [g1, g5, g6, g7, g8, g9, hwk]
        exact ⟨kk2 - 1, by omega, k2 + 1, by omega, bs, hI, qs, qb, ⟨hQ.q.next, hQ.own, hQ.cnt, hQ.hd⟩, hk2, ⟨rfl, rfl⟩, by omega⟩
      ·exact ⟨0, h', bs, qs, qb, by omega, rfl, hI, hQ, hk2, by simp [g1, g5, g6, g7, g8]⟩
     ·have hall := fun i hi => (CQ.all hQ.q (by omega) hN0 (fun i => bnth_false N i) hQ.hd (fun u f w hu hf hw => by obtain rfl := Option.some.inj hw; exact hU.lt u f hu hf) i hi).2 (hU.conn i hi)
      have w1 : IntKind.i64.wrap 1 = 1 := by decide
      simp [g1, g5, g6, g7, g8, hk2, w1]
      exact ⟨kk - 1, by omega, 1, by omega, bs, hI, fun h => by omega, fun _ => hall, rfl⟩
    ·exact ⟨0, H3, _, [0], h'.length, by omega, rfl, I3, Q3, by simp, by simp [g1, g5, g6]⟩
  ·simp [g1, g5, g6, ht]
   unfold pairQ back
   rw [if_neg (by simp [Out.scalar, scalar, flat1, flat])]
   refine ⟨⟨_, rfl⟩, Nat.le_refl _, fun b o hb => hI.keep b o (hs1 _ _ (hBs _ _ hb)) (by have := (List.getElem?_eq_some_iff.1 hb).1; omega)⟩
 ·exact ⟨0, H, List.replicate N false, by omega, rfl, ⟨fun b o hb _ => hb, hHP, by simp, Nat.le_refl _⟩, fun _ => rfl, fun h => by omega, by simp⟩
end Go.Proofs.Ytjlkndkedknocaa
namespace Go.Proofs.Ytjlkndkedknocaa
open Go Go.Ai
attribute [local instance] Classical.propDecidable
def sigO (t : Nat) : Int := if t % 2 = 0 then 1 else -1
theorem sigO_ori {G : Dg} (hG : GoodG G) : OriG (4 * G.n) (outE G) sigO := by
 refine ⟨fun t => by unfold sigO; split <;> omega, rfl, fun t f ht hf => ?_⟩
 by_cases h2 : 2 ≤ f
 ·obtain ⟨p', hp', he⟩ : ∃ p', (p' + t % 4) % 2 = 1 ∧ outE G (4 * (t / 4) + t % 4) f = (4 * (t / 4) + p', false) := by
   by_cases e : f = 2 + t % 4 % 2
   ·exact ⟨_, by omega, outE_in (by omega) (.inl ⟨e, rfl⟩)⟩
   ·exact ⟨_, by omega, outE_in (by omega) (.inr ⟨by omega, rfl⟩)⟩
  rw [show 4 * (t / 4) + t % 4 = t by omega] at he
  rw [he]
  simp only [sgnB, sigO]
  by_cases c : t % 2 = 0
  ·rw [if_neg (by omega), if_pos c]; rfl
  ·rw [if_pos (by omega), if_neg c]; rfl
 ·obtain ⟨q, hq⟩ : ∃ q, q = (plF t f).2 := ⟨_, rfl⟩
  have hp : plF t f = (t / 4, q) := by rw [hq]; rfl
  have hq4 : q < 4 := by rw [hq]; unfold plF; simp only; split <;> omega
  have ho := (oth_spec hG (hG.inV (x := (t / 4, q)) (by simp only; omega) hq4)).1
  obtain ⟨b, hb, hf'⟩ : ∃ b, t = ndT (t / 4) q b ∧ f = q % 2 := by
   rcases plF_eq (by omega) hp with ⟨h3, h4⟩ | ⟨h3, h4⟩
   ·exact ⟨true, by unfold ndT; simp only [if_true]; exact h3, h4⟩
   ·exact ⟨false, by unfold ndT; simp only [Bool.false_eq_true, if_false]; exact h3, h4⟩
  have ha := outE_arc (G := G) (c := t / 4) b hq4
  rw [← hb, ← hf'] at ha
  rw [ha]
  obtain ⟨o, hoo⟩ : ∃ o, o = oth G (t / 4, q) := ⟨_, rfl⟩
  rw [← hoo] at ho ⊢
  have ho2 := ho.2.1
  have hpar : (ndT o.1 o.2 (!b) + t + f + o.2) % 2 = 1 := by
   rw [hf', hb]
   cases b with
   | true => simp only [ndT, Bool.not_true, Bool.false_eq_true, if_false, if_true]; omega
   | false => simp only [ndT, Bool.not_false, Bool.false_eq_true, if_false, if_true]; omega
  simp only
  by_cases c : f = o.2 % 2
  ·rw [decide_eq_true c]
   simp only [Bool.not_true, sgnB, sigO]
   by_cases c2 : t % 2 = 0
   ·rw [if_neg (by omega), if_pos c2]; rfl
   ·rw [if_pos (by omega), if_neg c2]; rfl
  ·rw [decide_eq_false c]
   simp only [Bool.not_false, sgnB, sigO]
   by_cases c2 : t % 2 = 0
   ·rw [if_pos (by omega), if_pos c2]; rfl
   ·rw [if_neg (by omega), if_neg c2]; rfl
theorem cls_eq {N K M : Nat} {f g : Nat → Nat} (hf : ∀ u, u < N → f u < K) (hfo : ∀ k, k < K → ∃ u, u < N ∧ f u = k) (hg : ∀ u, u < N → g u < M) (hgo : ∀ k, k < M → ∃ u, u < N ∧ g u = k) (h : ∀ u w, u < N → w < N → (f u = f w ↔ g u = g w)) : K = M := by
 have hT : ∀ u, u < N → ∃ w, w < N ∧ (∀ v, v < w → f v ≠ f w) ∧ f w = f u := fun u hu => by
  obtain ⟨m, h1, h2⟩ := leastP (P := fun m => f m = f u) ⟨u, rfl⟩
  have : m ≤ u := by
   rcases Nat.lt_or_ge u m with h | h
   ·exact absurd rfl (h2 u h)
   ·exact h
  exact ⟨m, by omega, fun v hv hc => h2 v hv (hc.trans h1), h1⟩
 have e1 := cls_sum (F := fun _ => 1) (F' := fun _ => 1) (Tr := fun w => ∀ v, v < w → f v ≠ f w) hf hfo hT (fun u w hu hw tu tw e => by
  rcases Nat.lt_trichotomy u w with h | h | h
  ·exact absurd e (tw u h)
  ·exact h
  ·exact absurd e.symm (tu w h)) (fun _ _ _ => rfl)
 have e2 := cls_sum (F := fun _ => 1) (F' := fun _ => 1) (Tr := fun w => ∀ v, v < w → f v ≠ f w) hg hgo (fun u hu => by
  obtain ⟨w, h1, h2, h3⟩ := hT u hu
  exact ⟨w, h1, h2, (h w u h1 hu).1 h3⟩) (fun u w hu hw tu tw e => by
  have e := (h u w hu hw).2 e
  rcases Nat.lt_trichotomy u w with h | h | h
  ·exact absurd e (tw u h)
  ·exact h
  ·exact absurd e.symm (tu w h)) (fun _ _ _ => rfl)
 rw [sN_const] at e1 e2
 omega
structure CuspF (G : Dg) (xs ys : List Int) (k cnt : Nat) (zs : List Int) : Prop where
 cnt : cnt = k + 2
 len : zs.length = k + 2
 rng : ∀ j, j < k + 2 → -2 ≤ nth zs j ∧ nth zs j < k
 chi : ∀ j u, j < k + 2 → u < 16 * G.n → chiQ ys j u = if cuspV G xs u = nth zs j then 1 else 0
 inj : ∀ i j, i < k + 2 → j < k + 2 → nth zs i = nth zs j → i = j
 sur : ∀ z : Int, -2 ≤ z → z < k → ∃ j, j < k + 2 ∧ nth zs j = z
 cls : ∀ j, j < k + 2 → ClsInv (4 * G.n) (outE G) (chiQ ys j)
theorem cuspF_of {G : Dg} (hG : GoodG G) (hP : PlanG G) (hM : MixG G) {xs cls ys : List Int} {k cnt : Nat} (hO : OrbI (2 * G.n) (nx G) (2 * G.n) k xs) (hI : NumI cls ys (16 * G.n) (16 * G.n) cnt) (hcl : ∀ a b, a < 16 * G.n → b < 16 * G.n → (nth cls a = nth cls b ↔ VC (nbF (outF G)) a b)) : CuspF G xs ys k cnt (cuspL G xs (16 * G.n)) := by
 have hN := hI.numb.congr hcl
 have hys : ∀ u w, u < 16 * G.n → w < 16 * G.n → (nth ys u = nth ys w ↔ cuspV G xs u = cuspV G xs w) := fun u w hu hw => by
  rw [← cusp_iff hG hP hM hO hu hw, ← hcl u w hu hw]
  exact hI.rel u w hu hw
 have hrng : ∀ u, u < 16 * G.n → -2 ≤ cuspV G xs u ∧ cuspV G xs u < k := fun u hu => by
  obtain ⟨h1, h2⟩ := cusp_rng hG hO hu
  by_cases c : u % 4 < 2
  ·have := h1 c; omega
  ·have := h2 (by omega); omega
 have hc : cnt = k + 2 := by
  refine cls_eq (N := 16 * G.n) (f := fun a => (nth ys a).toNat) (g := fun u => (cuspV G xs u + 2).toNat) (fun u hu => hN.lt u hu) (fun j hj => ?_) (fun u hu => ?_) (fun j hj => ?_) (fun u w hu hw => ?_)
  ·obtain ⟨a, h1, h2, _⟩ := hN.ord j hj
   exact ⟨a, h1, h2⟩
  ·have := hrng u hu; omega
  ·obtain ⟨u, hu, e⟩ := cusp_all hG hM hO (z := (j : Int) - 2) (by omega) (by omega)
   exact ⟨u, hu, by omega⟩
  ·have h1 := hys u w hu hw
   have a1 := hI.val u hu
   have a2 := hI.val w hw
   have b1 := hrng u hu
   have b2 := hrng w hw
   constructor
   ·intro e
    have := h1.1 (by omega)
    omega
   ·intro e
    have := h1.2 (by omega)
    omega
 obtain ⟨i1, i2⟩ := firstsV_numb hN _ (Nat.le_refl _)
 have hl : (firstsV (nbF (outF G)) (16 * G.n)).length = cnt := by
  have e : ∀ x, x < (firstsV (nbF (outF G)) (16 * G.n)).length ↔ x < cnt := fun x => by
   rw [i1]
   constructor
   ·rintro ⟨b, h1, rfl⟩; exact hN.lt b h1
   ·intro hx
    obtain ⟨a, h1, h2, _⟩ := hN.ord x hx
    exact ⟨a, h1, h2⟩
  have h1 := e cnt
  have h2 := e (firstsV (nbF (outF G)) (16 * G.n)).length
  omega
 have hat : ∀ j, j < k + 2 → ∃ u, u < 16 * G.n ∧ nth ys u = j ∧ nth (cuspL G xs (16 * G.n)) j = cuspV G xs u := fun j hj => by
  obtain ⟨u, u1, u2, u3⟩ := i2 j (by omega)
  have := hI.val u u2
  refine ⟨u, u2, by omega, ?_⟩
  have hg : (cuspL G xs (16 * G.n))[j]? = some (cuspV G xs u) := by
   unfold cuspL
   rw [List.getElem?_map, u1]; rfl
  unfold Ai.nth
  rw [List.getD_eq_getElem?_getD, hg]; rfl
 refine ⟨hc, by unfold cuspL; rw [List.length_map]; omega, fun j hj => ?_, fun j u hj hu => ?_, fun i j hi hj e => ?_, fun z h1 h2 => ?_, fun j hj t f i ht hf hi hn => ?_⟩
 ·obtain ⟨u, h1, _, h3⟩ := hat j hj
  rw [h3]; exact hrng u h1
 ·obtain ⟨w, h1, h2, h3⟩ := hat j hj
  unfold chiQ
  rw [h3, ← h2]
  by_cases c : nth ys u = nth ys w
  ·rw [if_pos c, if_pos ((hys u w hu h1).1 c)]
  ·rw [if_neg c, if_neg fun h => c ((hys u w hu h1).2 h)]
 ·obtain ⟨u, h1, h2, h3⟩ := hat i hi
  obtain ⟨w, k1, k2, k3⟩ := hat j hj
  rw [h3, k3] at e
  have := (hys u w h1 k1).2 e
  omega
 ·obtain ⟨u, hu, e⟩ := cusp_all hG hM hO h1 h2
  have hv := hI.val u hu
  obtain ⟨w, k1, k2, k3⟩ := hat (nth ys u).toNat (by omega)
  refine ⟨(nth ys u).toNat, by omega, ?_⟩
  rw [k3, ← e]
  exact (hys w u k1 hu).1 (by omega)
 ·have hst : VC (nbF (outF G)) (4 * t + i) (4 * (outE G t f).1 + pm (outE G t f).2 i) := (VC.refl _).step f hf (by rw [nbF_eq hG ht hf hi, if_neg (fun h => hn h.symm)])
  have hlt := VC_lt hG (by omega) hst
  have := (hI.rel _ _ (by omega) hlt).2 ((hcl _ _ (by omega) hlt).2 hst)
  unfold chiQ
  rw [this]
end Go.Proofs.Ytjlkndkedknocaa
namespace Go.Proofs.Ytjlkndkedknocaa
open Go Go.Ai
attribute [local instance] Classical.propDecidable
theorem orb_uniq2 {N k k' : Nat} {f : Nat → Nat} {xs xs' : List Int} (h : OrbI N f N k xs) (h' : OrbI N f N k' xs') : k = k' := (h.numb.unique h'.numb).2
theorem euler_fin {G : Dg} (hG : GoodG G) (hP : PlanG G) (hM : MixG G) (hU : GlU (4 * G.n) (outE G)) {xs : List Int} {k : Nat} (hO : OrbI (2 * G.n) (nx G) (2 * G.n) k xs) {χ : Nat → Nat} {z : Int} (hχ : ∀ u, u < 16 * G.n → χ u = if cuspV G xs u = z then 1 else 0) (hC : ClsInv (4 * G.n) (outE G) χ) (hz : -2 ≤ z)
  {cls ys ws ls : List Int} {cnt : Nat} (hW : WtsP χ ys cnt (6 * (4 * G.n)) ws) (hI : NumI cls ys (6 * (4 * G.n)) (6 * (4 * G.n)) cnt) (hcl : ∀ a b, a < 6 * (4 * G.n) → b < 6 * (4 * G.n) → (nth cls a = nth cls b ↔ VC (nbK (outE G)) a b)) (hl : LkR (4 * G.n) χ ls) :
  sumN (nth ws) cnt - sumN (facA (outE G) χ) (4 * (4 * G.n)) + sumN (nth ls) (7 * (4 * G.n)) = if z < 0 then 2 else 0 := by
 have hN := hI.numb.congr hcl
 have h24 : 6 * (4 * G.n) = 24 * G.n := by omega
 have hval := hI.val
 rw [h24] at hN hW hcl hval
 have := euler_val hG hM hU hO hχ hC (cls := fun a => (nth ys a).toNat) (K := cnt) (fun u hu => hN.lt u hu) (fun j hj => by
  obtain ⟨a, h1, h2, _⟩ := hN.ord j hj
  exact ⟨a, h1, h2⟩) (fun u w hu hw => hN.rel u w hu hw) (W := nth ws) (fun u hu => by
  have hv := hval u hu
  obtain ⟨w, h1, h2, h3⟩ := hW.2 (nth ys u).toNat (hN.lt u hu) ⟨u, hu, by omega⟩
  have hr := (hN.rel u w hu h1).1 (by omega)
  rw [h3, wtE_VC hU hC (by omega) hr]) hz
 rw [hl.sum]
 rw [← this]
 congr 2
theorem edge_fin {G : Dg} (hG : GoodG G) (hP : PlanG G) (hM : MixG G) (hU : GlU (4 * G.n) (outE G)) {cls ys : List Int} {cnt : Nat} (hI : NumI cls ys (6 * (4 * G.n)) (6 * (4 * G.n)) cnt) (hcl : ∀ a b, a < 6 * (4 * G.n) → b < 6 * (4 * G.n) → (nth cls a = nth cls b ↔ VC (nbK (outE G)) a b)) : cnt = 4 * G.n + 2 := by
 have hN := hI.numb.congr hcl
 rw [show 6 * (4 * G.n) = 24 * G.n by omega] at hN
 exact edge_count hG hM hU (cls := fun a => (nth ys a).toNat) (fun u hu => hN.lt u hu) (fun j hj => by
  obtain ⟨a, h1, h2, _⟩ := hN.ord j hj
  exact ⟨a, h1, h2⟩) (fun u w hu hw => hN.rel u w hu hw)
def SeenP (zs : List Int) (K i : Nat) (ss : List Int) : Prop := ss.length = K ∧ ∀ v, v < K → nth ss v = if ∃ j, j < i ∧ nth zs j + 2 = v then 1 else 0
theorem SeenP.put {zs ss : List Int} {K i p : Nat} (h : SeenP zs K i ss) (hp : nth zs i + 2 = p) (hpK : p < K) (hnew : ∀ j, j < i → nth zs j ≠ nth zs i) : nth ss p = 0 ∧ SeenP zs K (i + 1) (ss.set p 1) := by
 refine ⟨?_, by simp [h.1], fun v hv => ?_⟩
 ·rw [h.2 p hpK, if_neg]
  rintro ⟨j, h1, h2⟩
  exact hnew j h1 (by omega)
 ·rw [nth_set (by rw [h.1]; exact hpK)]
  by_cases e : v = p
  ·rw [if_pos e, if_pos ⟨i, by omega, by rw [hp, e]⟩]
  ·rw [if_neg e, h.2 v hv]
   by_cases c : ∃ j, j < i ∧ nth zs j + 2 = v
   ·obtain ⟨j, h1, h2⟩ := c
    rw [if_pos ⟨j, h1, h2⟩, if_pos ⟨j, by omega, h2⟩]
   ·rw [if_neg c, if_neg]
    rintro ⟨j, h1, h2⟩
    by_cases ej : j = i
    ·subst ej; omega
    ·exact c ⟨j, by omega, h2⟩
variable {E : Env} (hE : OE E)
include hE
theorem outsB_ {h0 : List O} {a : Option Addr} {n c : Nat} {x : Nat → Nat → Int} {s : Nat → Int} {L : Int} (hx : CrossP h0 a n x s) (hA : askD n x s L = 0) :
  DC E 18 [dV a n c L] ⟨h0, h0.length⟩ fun o st' => ∃ fb cs, o = .ret (.tuple #[.agg #[.slice (some ⟨fb, 0, none⟩) (4 * n) (4 * n)], .int .i64 0]) ∧ h0.length ≤ st'.fl ∧ Sub h0 st'.h ∧ st'.h[fb]? = some (.cells cs 100 (some 20)) ∧ FacesC cs (4 * n) (outF (dgOf n x s L)) ∧ GluP st'.h (some ⟨fb, 0, none⟩) (4 * n) (outE (dgOf n x s L)) := by
 refine (Outside_ hE hx).imp ?_
 rintro o st' (⟨h1, _⟩ | ⟨_, fb, rfl, _, h2, h3, cs', h4, h5⟩)
 ·exact absurd hA h1
 obtain ⟨hS, hn, hsz⟩ := ask_pos hA
 refine ⟨fb, cs', rfl, h2, h3, h4, h5, by omega, by omega, fb, cs', _, _, rfl, h4, h5.1, fun t f ht hf j hj => ?_⟩
 have := h5.2 t f ht hf j hj
 rw [outF_eq (good_of hS) ht hf] at this
 exact this
set_option maxRecDepth 4000 in
set_option maxHeartbeats 2000000 in
theorem law4 {h0 : List O} {a : Option Addr} {n c : Nat} {x : Nat → Nat → Int} {s : Nat → Int} {L : Int} (hx : CrossP h0 a n x s) (hroom : n * 40 ≤ roomMax) (hsane : ∀ h, DR E 15 [] ⟨h, h.length⟩ (.ret (.bool true)) ⟨h, h.length⟩) :
  DR E 4 [dV a n c L] ⟨h0, h0.length⟩ (.ret (.bool true)) ⟨h0, h0.length⟩ := by
 refine hE.fn (body := rb4) rfl ?_
 unfold rb4
 obtain ⟨hB, hhB⟩ : ∃ H, H = h0 ++ [O.cells [.slice a n c, .int .i64 L] 24 (some 0)] := ⟨_, rfl⟩
 have hBs : Sub h0 hB := by rw [hhB]; exact (Sub.refl _).app _
 have lB : hB.length = h0.length + 1 := by rw [hhB]; simp
 have hB0 : hB[h0.length]? = some (O.cells [.slice a n c, .int .i64 L] 24 (some 0)) := by rw [hhB, app_at0]; rfl
 have hfew := few_ hE (h := hB) (a := a) (n := n) (c := c) (L := L)
 have hmx := Mixed_ hE (c := c) (L := L) (hx.sub hBs)
 have hj : joined ⟨hB, h0.length⟩ ⟨hB, hB.length⟩ = ⟨hB, h0.length⟩ := joined_mk _ _
 have hjm : ∀ (g g' : List O) (f : Nat), g.length ≤ f → h0.length ≤ g.length → joined ⟨g, h0.length⟩ ⟨g', f⟩ = ⟨g', h0.length⟩ := fun g g' f h1 h2 => by
  simp only [joined]
  split
  ·congr 1; omega
  ·rfl
 simp [dV, ← hhB, DC_q hsane, rdN_def, hB0]
 simp only [dV] at hfew hmx
 by_cases hn : n ≤ 8 ∨ 200 < n
 rotate_left
 ·simp only [hn, decide_false] at hfew
  simp [DC_of hfew, hj]
 simp only [hn, decide_true] at hfew
 cases hmd : mixD n x s L
 ·rw [hmd] at hmx
  simp [DC_of hfew, DC_of hmx, hj, rdN_def, ↓hB0]
 rw [hmd] at hmx
 have hA : askD n x s L = 0 := by
  have := of_decide_eq_true hmd
  unfold askD
  rw [if_neg (by simp [this.1]), if_pos this.2]
 obtain ⟨hS, hn0, hsz⟩ := ask_pos hA
 have hn8 : n ≤ 8 := by omega
 have hMx := (ask_zero hA).2
 have hPl := (kind_zero (ask_zero hA).1).2
 have hGd := good_of hS
 have U0 := glu_of hA
 have ho1 := outsB_ hE (c := c) (hx.sub hBs) hA
 simp only [dV] at ho1
 obtain rfl : L = 0 := (ask_zero hA).2.2.1
 obtain ⟨G, hG⟩ : ∃ G, G = dgOf n x s 0 := ⟨_, rfl⟩
 have hGn : n = G.n := by rw [hG]; rfl
 rw [← hG] at hMx hPl hGd U0 ho1
 obtain ⟨N, hN⟩ : ∃ N, N = 4 * n := ⟨_, rfl⟩
 have hNG : 4 * G.n = N := by rw [hN, hGn]
 simp [DC_of hfew, DC_of hmx, hj, rdN_def, ↓hB0]
 refine ho1.imp ?_
 rintro o ⟨h1, f1⟩ ⟨fb, cs, rfl, hf1, hs1, hfb1, hFC, hG1⟩
 simp only at hf1 hs1 hfb1 hG1
 have ls1 := hs1.len
 simp only [← hN] at hFC hG1 ⊢
 obtain ⟨h2, hh2⟩ : ∃ H, H = h1 ++ [O.cells [.slice (some ⟨fb, 0, none⟩) N N] 29 (some 0)] := ⟨_, rfl⟩
 have s2 : Sub h1 h2 := by rw [hh2]; exact (Sub.refl _).app _
 have ls2 : h2.length = h1.length + 1 := by rw [hh2]; simp
 have q2 : h2[h1.length]? = some (O.cells [.slice (some ⟨fb, 0, none⟩) N N] 29 (some 0)) := by rw [hh2, app_at0]; rfl
 have d2 := s2 _ _ (hs1 _ _ hB0)
 have hm1 : min h0.length h1.length = h0.length := by omega
 have sB2 : Sub h0 h2 := hBs.trans (hs1.trans s2)
 have cu := Cusps_ hE (c := c) (L := 0) (hx.sub sB2)
 simp only [dV] at cu
 simp [hjm _ _ _ hf1 (by omega), wrN_at0, set_at0, hm1, ↓← hh2, rdN_def, ↓d2]
 refine cu.imp ?_
 rintro o ⟨h3, f3⟩ (⟨hbad, _⟩ | ⟨_, xs, k, v, hO, rfl, hf3, hs3, hown⟩)
 ·exact absurd hA hbad
 simp only at hf3 hs3 hown
 rw [← hG] at hO hown
 rw [← hN] at U0
 have ls3 := hs3.len
 have g3 := hs3 _ _ q2
 have G3 := hG1.sub (s2.trans hs3)
 have ck := checkG_ hE (c := N) G3 U0
 have hj3 : joined ⟨h3, h0.length⟩ ⟨h3, h3.length⟩ = ⟨h3, h0.length⟩ := joined_mk _ _
 have hori := sigO_ori hGd
 rw [hNG] at hori
 have orr := orientG_ hE (c := N) G3 U0 hori
 simp [hjm _ _ _ hf3 (by omega), rdN_def, ↓g3, DC_of ck, hj3]
 refine orr.imp ?_
 rintro o ⟨h4, f4⟩ ⟨v4, rfl, hf4, hs4⟩
 simp only at hf4 hs4
 have ls4 := hs4.len
 have g4 := hs4 _ _ g3
 have G4 := G3.sub hs4
 have pa := partsG_ hE (c := N) G4 U0
 simp [hjm _ _ _ hf4 (by omega), rdN_def, ↓g4]
 refine pa.imp ?_
 rintro o ⟨h5, f5⟩ ⟨P, rfl, hP4, hf5, hs5, hPz⟩
 simp only at hf5 hs5 hPz
 have ls5 := hs5.len
 have g5 := hs5 _ _ g4
 have G5 := G4.sub hs5
 have hfb5 := hs5 _ _ (hs4 _ _ (hs3 _ _ (s2 _ _ hfb1)))
 have lk := links_ hE hGd hfb5 (by rw [hNG]; exact hFC) (by omega) (by omega) (by rw [hNG]; exact G5) (by rw [hNG]; exact U0)
 rw [hNG] at lk
 simp [hjm _ _ _ hf5 (by omega), rdN_def, ↓g5]
 refine lk.imp ?_
 rintro o ⟨h6, f6⟩ ⟨v6, cls, ys, cnt, rfl, hf6, hs6, hrows, hI, hcnt, hcl⟩
 simp only at hf6 hs6 hrows
 have ls6 := hs6.len
 have g6 := hs6 _ _ g5
 have G6 := G5.sub hs6
 rw [hGn] at hO hown
 have hCF := cuspF_of hGd hPl hMx hO hI hcl
 obtain ⟨zs, hzs⟩ : ∃ zs, zs = cuspL G xs (16 * G.n) := ⟨_, rfl⟩
 rw [← hzs] at hCF hown
 have d6 := hs6 _ _ (hs5 _ _ (hs4 _ _ (hs3 _ _ d2)))
 have ct := count_ hE (c := c) (L := 0) (hx.sub (sB2.trans (hs3.trans (hs4.trans (hs5.trans hs6))))) hS
 simp only [dV] at ct
 simp [hjm _ _ _ hf6 (by omega), rdN_def, ↓d6]
 refine ct.imp ?_
 rintro o st' ⟨xs', k', hO', hk', rfl, rfl⟩
 rw [← hG, hGn] at hO'
 obtain rfl := orb_uniq2 hO' hO
 have hj6 : joined ⟨h6, h0.length⟩ ⟨h6, h6.length⟩ = ⟨h6, h0.length⟩ := joined_mk _ _
 have ec := edgeClasses_ hE (c := N) G6 U0
 have hc1 := hCF.cnt
 have hc2 := hCF.len
 obtain ⟨cb, cz, rfl, hcb, hcat, _⟩ : ∃ b s, v = .slice (some ⟨b, 0, none⟩) zs.length zs.length ∧ h2.length ≤ b ∧ h3[b]? = some (.cells (intsC zs) 3 (some s)) ∧ (s = 0 ∨ s = 1) := by
  rcases hown.2 with ⟨_, h0⟩ | h0
  ·omega
  ·exact h0
 obtain ⟨rb, rz, rfl, hrb, hrat, _⟩ : ∃ b s, v6 = .slice (some ⟨b, 0, none⟩) cnt cnt ∧ h5.length ≤ b ∧ (∃ vs, h6[b]? = some (.cells vs 34 (some s))) ∧ (s = 0 ∨ s = 1) := by
  obtain ⟨vs, ⟨_, hv⟩, _⟩ := hrows
  rcases hv with ⟨_, h0⟩ | ⟨b, s, e1, e2, e3, e4⟩
  ·omega
  ·exact ⟨b, s, e1, e2, ⟨vs, e3⟩, e4⟩
 have wk : IntKind.i64.wrap ((k' : Int) + 2) = ((k' + 2 : Nat) : Int) := by rw [w64_id] <;> omega
 simp [hj6, hc1, hc2, wk, rdN_def, ↓g6]
 refine ec.imp ?_
 rintro o ⟨h7, f7⟩ ⟨eb, ecl, eys, ecn, rfl, heb, hf7, hs7, heat, hEI, hEc, hEcl⟩
 simp only at hf7 hs7 heat
 unfold AtB at heat
 have ls7 := hs7.len
 have g7 := hs7 _ _ g6
 have d7 := hs7 _ _ d6
 have hct := countN_ hE heat hEI hEc (by omega)
 have hj7 : joined ⟨h7, h0.length⟩ ⟨h7, h7.length⟩ = ⟨h7, h0.length⟩ := joined_mk _ _
 rw [← hNG] at hEI hEcl
 have hec2 := edge_fin hGd hPl hMx (by rw [hNG]; exact U0) hEI hEcl
 rw [← hGn] at hec2
 have we1 : IntKind.i64.wrap (4 * (n : Int)) = 4 * (n : Int) := by rw [w64_id] <;> omega
 have we2 : IntKind.i64.wrap (4 * (n : Int) + 2) = (ecn : Int) := by rw [w64_id] <;> omega
 simp [hjm _ _ _ hf7 (by omega), DC_of hct, hj7, rd_def, ↓d7, we1, we2, bit]
 refine ⟨hf7, fun h => absurd h (by omega), ?_⟩
 have hN0 : 0 < N := by omega
 have hPz7 := hs7 _ _ (hs6 _ _ hPz)
 have hc7 := hs7 _ _ (hs6 _ _ (hs5 _ _ (hs4 _ _ hcat)))
 have G7 := G6.sub hs7
 refine DW_loop (fun kk fr st => ∃ (i : Nat), i + kk = N ∧ st = ⟨h7, h0.length⟩ ∧ get fr 3 = .pointer (some ⟨h1.length, 0, none⟩) ∧ get fr 5 = .slice (some ⟨cb, 0, none⟩) (k' + 2) (k' + 2) ∧ get fr 10 = .slice (some ⟨P, 0, none⟩) N N ∧ get fr 12 = .slice (some ⟨rb, 0, none⟩) (k' + 2) (k' + 2) ∧ get fr 14 = .int .i64 k' ∧ get fr 15 = .int .i64 i) ?_ (k := N) ?_
 ·rintro kk fr st ⟨i, hik, rfl, g3', g5', g10, g12, g14, g15⟩
  by_cases hi : i < N
  ·have hw : IntKind.i64.wrap ((i : Int) + 1) = (i : Int) + 1 := by rw [w64_id] <;> omega
   have hil : i < (List.replicate N (0 : Int)).length := by simpa using hi
   have hz : nth (List.replicate N (0 : Int)) i = 0 := by simp [Ai.nth, hi]
   simp [g3', g5', g10, g12, g14, g15, hi, rd_def, ↓hPz7, intsC_get hil, hz, hw]
   exact ⟨kk - 1, by omega, i + 1, by omega, by omega⟩
  ·obtain ⟨K, hK⟩ : ∃ K, K = k' + 2 := ⟨_, rfl⟩
   have wk2 : IntKind.i64.wrap ((k' : Int) + 2) = (K : Int) := by rw [w64_id] <;> omega
   have z1 : (K : Int) * 8 ≤ 140737488355328 := by omega
   have z2 : (K : Int) < 4611686018427387904 := by omega
   obtain ⟨h8, hh8⟩ : ∃ H, H = h7 ++ [O.cells (rep K [Value.int .i64 0]) 3 (some 0)] := ⟨_, rfl⟩
   have s8 : Sub h7 h8 := by rw [hh8]; exact (Sub.refl _).app _
   have ls8 : h8.length = h7.length + 1 := by rw [hh8]; simp
   have q8 : h8[h7.length]? = some (O.cells (intsC (List.replicate K 0)) 3 (some 0)) := by rw [hh8, app_at0]; simp [rep, intsC]
   rw [← hK] at g5' g12
   simp [g3', g5', g10, g12, g14, g15, hi, wk2, z1, z2, ↓← hh8]
   obtain ⟨V, hV⟩ : ∃ V, V = h7.length := ⟨_, rfl⟩
   rw [← hV] at q8 ls8 ⊢
   have hmV : min h0.length V = h0.length := by omega
   refine DW_loop (fun kk fr st => ∃ (i : Nat) (h' : List O) (ss : List Int), i + kk = K ∧ st = ⟨h', h0.length⟩ ∧ h'.length = h8.length ∧ (∀ (b : Nat) (o : O), h8[b]? = some o → b ≠ V → h'[b]? = some o) ∧ h'[V]? = some (.cells (intsC ss) 3 (some 0)) ∧ SeenP zs K i ss ∧
    get fr 3 = .pointer (some ⟨h1.length, 0, none⟩) ∧ get fr 5 = .slice (some ⟨cb, 0, none⟩) K K ∧ get fr 12 = .slice (some ⟨rb, 0, none⟩) K K ∧ get fr 14 = .int .i64 k' ∧ get fr 16 = .slice (some ⟨V, 0, none⟩) K K ∧ get fr 17 = .int .i64 i) ?_ (k := K) ?_
   ·clear g3' g5' g10 g12 g14 g15
    rintro kk fr st ⟨i, h', ss, hik, rfl, hl', hk', hat', hSe, g3', g5', g12, g14, g16, g17⟩
    have hS7 : Sub h7 h' := fun b o hb => hk' _ _ (s8 _ _ hb) (by have := (List.getElem?_eq_some_iff.1 hb).1; omega)
    by_cases hi : i < K
    ·have hw : IntKind.i64.wrap ((i : Int) + 1) = (i : Int) + 1 := by rw [w64_id] <;> omega
     have hr := hCF.rng i (by omega)
     obtain ⟨z, hz⟩ : ∃ z, z = nth zs i := ⟨_, rfl⟩
     rw [← hz] at hr
     obtain ⟨p, hp⟩ : ∃ p : Nat, z + 2 = p := ⟨(z + 2).toNat, by omega⟩
     have hpK : p < K := by omega
     have hpK' : (p : Int) < K := by omega
     obtain ⟨hs0, hSe'⟩ := hSe.put (p := p) (by rw [← hz]; exact hp) hpK fun j hj e => by
      have := hCF.inj j i (by omega) (by omega) e
      omega
     have wp : IntKind.i64.wrap (z + 2) = (p : Int) := by rw [w64_id] <;> omega
     have hci := hS7 _ _ hc7
     have hil : i < zs.length := by omega
     have hpl : p < ss.length := by rw [hSe.1]; exact hpK
     have hpl' : p + 1 ≤ ss.length := hpl
     have n1 : ¬ z < -2 := by omega
     have n2 : ¬ (k' : Int) ≤ z := by omega
     have w1 : IntKind.i64.wrap 1 = 1 := by decide
     obtain ⟨h9, hh9⟩ : ∃ H, H = h'.set V (O.cells (intsC (ss.set p 1)) 3 (some 0)) := ⟨_, rfl⟩
     have l9 : h9.length = h'.length := by rw [hh9]; simp
     have at9 : h9[V]? = some (O.cells (intsC (ss.set p 1)) 3 (some 0)) := by rw [hh9]; exact set_self hat'
     have k9 : ∀ (b : Nat) (o : O), h8[b]? = some o → b ≠ V → h9[b]? = some o := fun b o hb hne => by rw [hh9]; exact set_ne (hk' b o hb hne) hne
     have s9 : Sub h7 h9 := fun b o hb => k9 _ _ (s8 _ _ hb) (by have := (List.getElem?_eq_some_iff.1 hb).1; omega)
     have g9 := s9 _ _ g7
     obtain ⟨vs, ⟨_, hv⟩, hrow⟩ := hrows
     have hrw : h6[rb]? = some (.cells vs 34 (some rz)) := by
      rcases hv with ⟨he, _⟩ | ⟨b, s, e1, _, e3, _⟩
      ·cases he
      ·cases e1
       obtain ⟨vs', e4⟩ := hrat
       rw [e4] at e3
       have := (O.cells.inj (Option.some.inj e3)).1
       rw [e4, this]
     have hr9 := s9 _ _ (hs7 _ _ hrw)
     obtain ⟨qb, ls, r1, r2, r3⟩ := hrow i (by omega)
     have hEu := euler_ hE (c := N) (c' := 7 * N) (G7.sub s9) U0 (by omega) (a' := some ⟨qb, 0, none⟩) ⟨r3.len, fun _ => ⟨_, _, _, rfl, s9 _ _ (hs7 _ _ r2)⟩⟩ r3 (by have := hCF.cls i (by omega); rwa [hNG] at this)
     have hj9 : joined ⟨h9, h0.length⟩ ⟨h9, h9.length⟩ = ⟨h9, h0.length⟩ := joined_mk _ _
     have hc9 := s9 _ _ hc7
     have hfin := fun {cls ys' ws cnt'} (hW : WtsP (chiQ ys i) ys' cnt' (6 * N) ws) (hI' : NumI cls ys' (6 * N) (6 * N) cnt') (hcl' : ∀ a b, a < 6 * N → b < 6 * N → (nth cls a = nth cls b ↔ VC (nbK (outE G)) a b)) => by
      have := euler_fin hGd hPl hMx (by rw [hNG]; exact U0) hO (χ := chiQ ys i) (z := z) (fun u hu => by rw [hz]; exact hCF.chi i u (by omega) hu) (by exact hCF.cls i (by omega)) (by omega) (cls := cls) (ys := ys') (ws := ws) (cnt := cnt') (ls := ls) (by rw [hNG]; exact hW) (by rw [hNG]; exact hI') (by rw [hNG]; exact hcl') (by rw [hNG]; exact r3)
      rw [hNG] at this
      exact this
     have hnext : ∃ k'', k'' < kk ∧ (i + 1) + k'' = K := ⟨kk - 1, by omega, by omega⟩
     obtain ⟨kn, hkn, hkn2⟩ := hnext
     by_cases hzn : z < 0
     ·have hz0 : ¬ 0 ≤ z := by omega
      simp [g3', g5', g12, g14, g16, g17, hi, rd_def, ↓hci, intsC_get hil, ← hz, n1, n2, wp, hpK, hpK', wrN_def, ↓hat', hs0, hpl', intsC_get hpl, w1, intsC_set, hmV, ← hh9, rdN_def, ↓g9, ↓hr9, r1, ↓hc9, hz0]
      refine hEu.imp ?_
      rintro o st' ⟨ecl2, eys2, ws, ecn2, rfl, rfl, hW2, hI2, hcl2⟩
      have hX := hfin hW2 hI2 hcl2
      rw [hX, if_pos hzn]
      simp [hj9, hw, bit, g3', g5', g12, g14, g16, g17]
      exact ⟨kn, hkn, i + 1, by omega, by omega, k9, ss.set p 1, at9, hSe', by omega⟩
     ·have hz0 : 0 ≤ z := by omega
      simp [g3', g5', g12, g14, g16, g17, hi, rd_def, ↓hci, intsC_get hil, ← hz, n1, n2, wp, hpK, hpK', wrN_def, ↓hat', hs0, hpl', intsC_get hpl, w1, intsC_set, hmV, ← hh9, rdN_def, ↓g9, ↓hr9, r1, ↓hc9, hz0]
      refine hEu.imp ?_
      rintro o st' ⟨ecl2, eys2, ws, ecn2, rfl, rfl, hW2, hI2, hcl2⟩
      have hX := hfin hW2 hI2 hcl2
      rw [hX, if_neg hzn]
      simp [hj9, hw, bit, g3', g5', g12, g14, g16, g17]
      exact ⟨kn, hkn, i + 1, by omega, by omega, k9, ss.set p 1, at9, hSe', by omega⟩
    ·have hiK : i = K := by omega
     simp [g3', g5', g12, g14, g16, g17, hi]
     refine DW_loop (fun kk fr st => ∃ (j : Nat), j + kk = K ∧ st = ⟨h', h0.length⟩ ∧ get fr 16 = .slice (some ⟨V, 0, none⟩) K K ∧ get fr 21 = .int .i64 j) ?_ (k := K) ?_
     ·clear g3' g5' g12 g14 g16 g17
      rintro kk fr st ⟨j, hjk, rfl, g16, g21⟩
      by_cases hj : j < K
      ·have hw : IntKind.i64.wrap ((j : Int) + 1) = (j : Int) + 1 := by rw [w64_id] <;> omega
       have hjl : j < ss.length := by rw [hSe.1]; exact hj
       have h1' : nth ss j = 1 := by
        obtain ⟨m, m1, m2⟩ := hCF.sur ((j : Int) - 2) (by omega) (by omega)
        rw [hSe.2 j hj, if_pos ⟨m, by omega, by omega⟩]
       simp [g16, g21, hj, rd_def, ↓hat', intsC_get hjl, h1', hw]
       exact ⟨kk - 1, by omega, j + 1, by omega, by omega⟩
      ·simp [g16, g21, hj]
     ·exact ⟨0, by omega, rfl, by simp [g16]⟩
   ·exact ⟨0, h8, List.replicate K 0, by omega, rfl, rfl, fun b o hb _ => hb, q8, ⟨by simp, fun v hv => by rw [if_neg (by rintro ⟨j, hj, _⟩; omega)]; simp [Ai.nth, hv]⟩, by simp [g3', g5', g12, g14]⟩
 ·exact ⟨0, by omega, rfl, by simp⟩
end Go.Proofs.Ytjlkndkedknocaa
namespace Go.Proofs.Ytjlkndkedknocaa
open Go Go.Ai
noncomputable def kinkH : List O := [.cells [.int .i64 0, .int .i64 0, .int .i64 1, .int .i64 1, .int .i64 1] 107 (some 0)]
noncomputable def kinkV : Value := .agg #[.slice (some ⟨0, 0, none⟩) 1 1, .int .i64 0]
noncomputable def circV : Value := .agg #[.slice none 0 0, .int .i64 1]
def seenI : Option (Out × St) → Option Int
 | some (.ret (.int _ n), _) => some n
 | _ => none
def lenV1 : Value → Option Nat
 | .slice _ n _ => some n
 | _ => none
def seenL : Option (Out × St) → Option Nat
 | some (.ret (.tuple vs), _) => (vs.toList[0]?).bind lenV1
 | _ => none
set_option maxRecDepth 100000
theorem ask_kink : seenI (call E0 300 84 [kinkV] ⟨kinkH, 1⟩) = some 0 := by kernel_rfl
theorem ask_circ : seenI (call E0 300 84 [circV] ⟨[], 0⟩) = some 290 := by kernel_rfl
end Go.Proofs.Ytjlkndkedknocaa
namespace Go.Proofs.Ytjlkndkedknocaa
open Go Go.Ai
def xK : Nat → Nat → Int := fun _ j => if j < 2 then 0 else 1
def sK : Nat → Int := fun _ => 1
def TK : Nat → Nat → Nat := fun a k => if a = 0 then (if k = 1 then 1 else 0) else if k = 1 then 2 else if k = 3 then 3 else 0
def GK : Dg := { n := 1, X := fun _ j => if j < 2 then 0 else 1, s := sK, L := 0, T := TK }
theorem kink_T (hG : GoodG (dgOf 1 xK sK 0)) : ∀ a k, a < 2 → k < 4 → (dgOf 1 xK sK 0).T a k = TK a k := by
 have hX : ∀ i j, (dgOf 1 xK sK 0).X i j = if j < 2 then 0 else 1 := fun i j => by
  show (xK i j).toNat = _
  unfold xK; split <;> rfl
 have hs : ∀ i, (dgOf 1 xK sK 0).s i = 1 := fun i => rfl
 have hn : (dgOf 1 xK sK 0).n = 1 := rfl
 have ho : ∀ q, q < 4 → (outB 1 q = true ↔ q = 1 ∨ q = 2) := fun q hq => by
  match q, hq with
  | 0, _ => simp [outB]
  | 1, _ => simp [outB]
  | 2, _ => simp [outB]
  | 3, _ => simp [outB]
 intro a k ha hk
 obtain ⟨t0, t1, t2, t3, x1, x2, _⟩ := hG.T a (by rw [hn]; omega)
 obtain ⟨d1, d2⟩ := hG.dir a (by rw [hn]; omega)
 rw [hs] at d1 d2
 rw [hn] at t0 t2
 rw [hX] at x1 x2
 have e1 := (ho _ t1).1 d1
 have e2 : ¬ ((dgOf 1 xK sK 0).T a 3 = 1 ∨ (dgOf 1 xK sK 0).T a 3 = 2) := fun h => by
  have := (ho _ t3).2 h
  rw [this] at d2; cases d2
 have hk4 : k = 0 ∨ k = 1 ∨ k = 2 ∨ k = 3 := by omega
 have ha2 : a = 0 ∨ a = 1 := by omega
 rcases ha2 with rfl | rfl
 ·split at x1 <;> split at x2 <;> rcases hk4 with rfl | rfl | rfl | rfl <;> simp only [TK] <;> simp <;> omega
 ·split at x1 <;> split at x2 <;> rcases hk4 with rfl | rfl | rfl | rfl <;> simp only [TK] <;> simp <;> omega
theorem kink_out (hG : GoodG (dgOf 1 xK sK 0)) : outF (dgOf 1 xK sK 0) = outF GK := by
 have hT := kink_T hG
 have hn : (dgOf 1 xK sK 0).n = 1 := rfl
 have hal : ∀ a k, a < 2 → alT (dgOf 1 xK sK 0) a k = alT GK a k ∧ alF (dgOf 1 xK sK 0) a k = alF GK a k := fun a k ha => by
  match k with
  | 0 => simp only [alT, alF, hT a 0 ha (by omega), hT a 1 ha (by omega), GK, and_self]
  | 1 => simp only [alT, alF, hT a 2 ha (by omega), hT a 3 ha (by omega), GK, and_self]
  | 2 => simp only [alT, alF, hT a 0 ha (by omega), hT a 1 ha (by omega), GK, and_self]
  | k + 3 => simp only [alT, alF, hT a 2 ha (by omega), hT a 3 ha (by omega), GK, and_self]
 show glA (dgOf 1 xK sK 0) 2 = glA GK 2
 have h0 : glA (dgOf 1 xK sK 0) 0 = glA GK 0 := rfl
 have hJ : ∀ a k F, a < 2 → glJ (dgOf 1 xK sK 0) a k F = glJ GK a k F := fun a k F ha => by
  simp only [glJ, (hal a k ha).1, (hal a k ha).2, (hal a (k + 1) ha).1, (hal a (k + 1) ha).2]
 show glJ _ 1 2 (glJ _ 1 0 (glJ _ 0 2 (glJ _ 0 0 (glA _ 0)))) = glJ _ 1 2 (glJ _ 1 0 (glJ _ 0 2 (glJ _ 0 0 (glA _ 0))))
 rw [h0, hJ 0 0 _ (by omega), hJ 0 2 _ (by omega), hJ 1 0 _ (by omega), hJ 1 2 _ (by omega)]
def clsK (u : Nat) : Nat := [0, 0, 2, 3, 0, 0, 2, 3, 0, 0, 2, 3, 0, 0, 2, 3].getD u 0
theorem kink_inv : ∀ u, u < 16 → ∀ f, f < 4 → (match nbF (outF GK) u f with | some w => decide (w < 16 ∧ clsK w = clsK u) | none => true) = true := by decide
theorem kink_cls {a b : Nat} (ha : a < 16) (h : VC (nbF (outF GK)) a b) : b < 16 ∧ clsK b = clsK a := by
 induction h with
 | refl => exact ⟨ha, rfl⟩
 | @step b w f _ hf hw ih =>
  have := kink_inv b ih.1 f hf
  rw [hw] at this
  have := of_decide_eq_true this
  exact ⟨this.1, this.2.trans ih.2⟩
theorem kink_lead {v : Nat} (h : ∀ w, w < v → w < 16 ∧ clsK v ≠ clsK w) : ¬ ∃ w, w < v ∧ VC (nbF (outF GK)) w v := by
 rintro ⟨w, h1, h2⟩
 obtain ⟨h3, h4⟩ := h w h1
 exact h4 (kink_cls h3 h2).2
theorem kink_step {u w f v : Nat} (h : VC (nbF (outF GK)) v u) (hf : f < 4) (hw : nbF (outF GK) u f = some w) : VC (nbF (outF GK)) v w := h.step f hf hw
theorem kv0 : firstsV (nbF (outF GK)) 1 = firstsV (nbF (outF GK)) 0 ++ [0] := firstsV_new (kink_lead (by decide))
theorem kv1 : firstsV (nbF (outF GK)) 2 = firstsV (nbF (outF GK)) 1 := firstsV_old ⟨0, by decide, (kink_step (u := 0) (w := 1) (f := 1) (VC.refl 0) (by decide) (by decide))⟩
theorem kv2 : firstsV (nbF (outF GK)) 3 = firstsV (nbF (outF GK)) 2 ++ [2] := firstsV_new (kink_lead (by decide))
theorem kv3 : firstsV (nbF (outF GK)) 4 = firstsV (nbF (outF GK)) 3 ++ [3] := firstsV_new (kink_lead (by decide))
theorem kv4 : firstsV (nbF (outF GK)) 5 = firstsV (nbF (outF GK)) 4 := firstsV_old ⟨0, by decide, (kink_step (u := 0) (w := 4) (f := 2) (VC.refl 0) (by decide) (by decide))⟩
theorem kv5 : firstsV (nbF (outF GK)) 6 = firstsV (nbF (outF GK)) 5 := firstsV_old ⟨0, by decide, (kink_step (u := 1) (w := 5) (f := 2) (kink_step (u := 0) (w := 1) (f := 1) (VC.refl 0) (by decide) (by decide)) (by decide) (by decide))⟩
theorem kv6 : firstsV (nbF (outF GK)) 7 = firstsV (nbF (outF GK)) 6 := firstsV_old ⟨2, by decide, (kink_step (u := 14) (w := 6) (f := 0) (kink_step (u := 2) (w := 14) (f := 3) (VC.refl 2) (by decide) (by decide)) (by decide) (by decide))⟩
theorem kv7 : firstsV (nbF (outF GK)) 8 = firstsV (nbF (outF GK)) 7 := firstsV_old ⟨3, by decide, (kink_step (u := 3) (w := 7) (f := 2) (VC.refl 3) (by decide) (by decide))⟩
theorem kv8 : firstsV (nbF (outF GK)) 9 = firstsV (nbF (outF GK)) 8 := firstsV_old ⟨0, by decide, (kink_step (u := 4) (w := 8) (f := 3) (kink_step (u := 0) (w := 4) (f := 2) (VC.refl 0) (by decide) (by decide)) (by decide) (by decide))⟩
theorem kv9 : firstsV (nbF (outF GK)) 10 = firstsV (nbF (outF GK)) 9 := firstsV_old ⟨0, by decide, (kink_step (u := 5) (w := 9) (f := 3) (kink_step (u := 1) (w := 5) (f := 2) (kink_step (u := 0) (w := 1) (f := 1) (VC.refl 0) (by decide) (by decide)) (by decide) (by decide)) (by decide) (by decide))⟩
theorem kv10 : firstsV (nbF (outF GK)) 11 = firstsV (nbF (outF GK)) 10 := firstsV_old ⟨2, by decide, (kink_step (u := 6) (w := 10) (f := 3) (kink_step (u := 14) (w := 6) (f := 0) (kink_step (u := 2) (w := 14) (f := 3) (VC.refl 2) (by decide) (by decide)) (by decide) (by decide)) (by decide) (by decide))⟩
theorem kv11 : firstsV (nbF (outF GK)) 12 = firstsV (nbF (outF GK)) 11 := firstsV_old ⟨3, by decide, (kink_step (u := 15) (w := 11) (f := 2) (kink_step (u := 7) (w := 15) (f := 0) (kink_step (u := 3) (w := 7) (f := 2) (VC.refl 3) (by decide) (by decide)) (by decide) (by decide)) (by decide) (by decide))⟩
theorem kv12 : firstsV (nbF (outF GK)) 13 = firstsV (nbF (outF GK)) 12 := firstsV_old ⟨0, by decide, (kink_step (u := 0) (w := 12) (f := 3) (VC.refl 0) (by decide) (by decide))⟩
theorem kv13 : firstsV (nbF (outF GK)) 14 = firstsV (nbF (outF GK)) 13 := firstsV_old ⟨0, by decide, (kink_step (u := 1) (w := 13) (f := 3) (kink_step (u := 0) (w := 1) (f := 1) (VC.refl 0) (by decide) (by decide)) (by decide) (by decide))⟩
theorem kv14 : firstsV (nbF (outF GK)) 15 = firstsV (nbF (outF GK)) 14 := firstsV_old ⟨2, by decide, (kink_step (u := 2) (w := 14) (f := 3) (VC.refl 2) (by decide) (by decide))⟩
theorem kv15 : firstsV (nbF (outF GK)) 16 = firstsV (nbF (outF GK)) 15 := firstsV_old ⟨3, by decide, (kink_step (u := 7) (w := 15) (f := 0) (kink_step (u := 3) (w := 7) (f := 2) (VC.refl 3) (by decide) (by decide)) (by decide) (by decide))⟩
theorem kink_three (xs : List Int) (hG : GoodG (dgOf 1 xK sK 0)) : (cuspL (dgOf 1 xK sK 0) xs 16).length = 3 := by
 unfold cuspL
 rw [List.length_map, kink_out hG, kv15, kv14, kv13, kv12, kv11, kv10, kv9, kv8, kv7, kv6, kv5, kv4, kv3, kv2, kv1, kv0]
 rfl
end Go.Proofs.Ytjlkndkedknocaa
namespace Go.Proofs.Ytjlkndkedknocaa
open Go Go.Ai
theorem c86_0a : cmpT 77 (lcA 86 0) = some ra86_0 := by kernel_rfl
theorem c86_0b : cmpT 77 (lcB 86 0) = some rl86_0 := by kernel_rfl
theorem c219_0a : cmpT 46 (lcA 219 0) = some ra219_0 := by kernel_rfl
theorem c219_0b : cmpT 46 (lcB 219 0) = some rl219_0 := by kernel_rfl
theorem E0_cmp : E0.cmp = cmpT := by unfold E0; rfl
theorem E0_S (f : FuncId) : E0.S f = none := by unfold E0; rfl
theorem E0_OE : OE E0 := ⟨fun f rf h => h, fun f h _ => E0_S f, fun k => E0_S _, by rw [E0_cmp]; exact c86_0a, by rw [E0_cmp]; exact c86_0b, by rw [E0_cmp]; exact c219_0a, by rw [E0_cmp]; exact c219_0b⟩
end Go.Proofs.Ytjlkndkedknocaa
namespace Go.Proofs.Ytjlkndkedknocaa
open Go Go.Ai
attribute [local instance] Classical.propDecidable
theorem seenI_some {x : Option (Out × St)} {n : Int} (h : seenI x = some n) : ∃ k st, x = some (.ret (.int k n), st) := by
 unfold seenI at h
 split at h
 ·rename_i k m st
  obtain rfl := Option.some.inj h
  exact ⟨k, st, rfl⟩
 ·cases h
theorem kinkP {h : List O} {b : Nat} {el : TypeId} {own : Option Nat} (hb : h[b]? = some (.cells [.int .i64 0, .int .i64 0, .int .i64 1, .int .i64 1, .int .i64 1] el own)) : CrossP h (some ⟨b, 0, none⟩) 1 xK sK := by
 refine ⟨b, 0, fun _ => rfl, fun i hi => ?_⟩
 obtain rfl : i = 0 := by omega
 rw [rdN_def, hb]
 simp [crossC, xK, sK]
theorem ask_K : askD 1 xK sK 0 = 0 := by
 obtain ⟨k, st, h⟩ := seenI_some ask_kink
 have hx : CrossP kinkH (some ⟨0, 0, none⟩) 1 xK sK := kinkP rfl
 have h1 := asked_ E0_OE (c := 1) (L := 0) hx
 have h2 : DR E0 84 [kinkV] ⟨kinkH, 1⟩ (.ret (.int k 0)) st := ⟨300, h⟩
 have h3 := (DR.unique h1 h2).1
 simp only [Out.ret.injEq, Value.int.injEq] at h3
 exact h3.2
theorem ask_C : askD 0 xK sK 1 = 290 := by
 obtain ⟨k, st, h⟩ := seenI_some ask_circ
 have hx : CrossP [] none 0 xK sK := ⟨0, 0, fun h => by omega, fun i hi => by omega⟩
 have h1 := asked_ E0_OE (c := 0) (L := 1) hx
 have h2 : DR E0 84 [circV] ⟨[], 0⟩ (.ret (.int k 290)) st := ⟨300, h⟩
 have h3 := (DR.unique h1 h2).1
 simp only [Out.ret.injEq, Value.int.injEq] at h3
 exact h3.2
theorem mix_K : mixD 1 xK sK 0 = true := by
 have := ask_zero ask_K
 unfold mixD
 exact decide_eq_true this
theorem mix_C : mixD 0 xK sK 1 = false := by
 unfold mixD
 refine decide_eq_false fun h => ?_
 have := ask_C
 unfold askD at this
 rw [if_neg (by simp [h.1]), if_pos h.2] at this
 cases this
variable {E : Env} (hE : OE E)
include hE
theorem Kink_ {h : List O} : DR E 80 [] ⟨h, h.length⟩ (.ret (dV (some ⟨h.length + 1, 0, none⟩) 1 1 0)) ⟨h ++ [.cells [.slice (some ⟨h.length + 1, 0, none⟩) 1 1, .int .i64 0] 24 (some 0), .cells [.int .i64 0, .int .i64 0, .int .i64 1, .int .i64 1, .int .i64 1] 107 (some 0)], h.length⟩ := by
 refine hE.fn (body := rb80) rfl ?_
 unfold rb80
 simp [dV, List.append_assoc, wrN_at0, set_at0, rdN_at0, back, Out.scalar, scalar, flat1, flat]
theorem sane_ {h0 : List O} : DR E 15 [] ⟨h0, h0.length⟩ (.ret (.bool true)) ⟨h0, h0.length⟩ := by
 refine hE.fn (body := rb15) rfl ?_
 unfold rb15
 obtain ⟨h1, hh1⟩ : ∃ H, H = h0 ++ [O.cells [.slice (some ⟨h0.length + 1, 0, none⟩) 1 1, .int .i64 0] 24 (some 0), O.cells [.int .i64 0, .int .i64 0, .int .i64 1, .int .i64 1, .int .i64 1] 107 (some 0)] := ⟨_, rfl⟩
 have hk1 : h1[h0.length + 1]? = some (O.cells [.int .i64 0, .int .i64 0, .int .i64 1, .int .i64 1, .int .i64 1] 107 (some 0)) := by rw [hh1, app_at]; rfl
 have l1 : h1.length = h0.length + 2 := by rw [hh1]; simp
 have hki := Kink_ hE (h := h0)
 simp only [dV, ← hh1] at hki
 obtain ⟨h2, hh2⟩ : ∃ H, H = h1 ++ [O.cells [.slice (some ⟨h0.length + 1, 0, none⟩) 1 1, .int .i64 0] 24 (some 0), O.cells [.slice none 0 0, .int .i64 1] 24 (some 0)] := ⟨_, rfl⟩
 have hs12 : Sub h1 h2 := by rw [hh2]; exact (Sub.refl _).app _
 have hd1 : h2[h1.length]? = some (O.cells [.slice (some ⟨h0.length + 1, 0, none⟩) 1 1, .int .i64 0] 24 (some 0)) := by rw [hh2, app_at0]; rfl
 have hd2 : h2[h1.length + 1]? = some (O.cells [.slice none 0 0, .int .i64 1] 24 (some 0)) := by rw [hh2, app_at]; rfl
 have l2 : h2.length = h1.length + 2 := by rw [hh2]; simp
 have hk2 := hs12 _ _ hk1
 have hm1 : min h0.length h1.length = h0.length := by omega
 have hm2 : min h0.length (h1.length + 1) = h0.length := by omega
 simp [DC_of hki, joined_fl, wrN_at0, set_at0, wrN_at, set_at, List.append_assoc, hm1, hm2, ← hh2, rdN_def, hd1]
 have ou := Outside_ hE (c := 1) (L := 0) (kinkP hk2)
 simp only [dV] at ou
 refine ou.imp ?_
 rintro o ⟨h3, f3⟩ (⟨hne, _⟩ | ⟨_, fb, rfl, _, hf3, hs3, cs', _, _⟩)
 ·exact absurd ask_K hne
 simp only at hf3 hs3
 obtain ⟨h4, hh4⟩ : ∃ H, H = h3 ++ [O.cells [.slice (some ⟨fb, 0, none⟩) 4 4] 29 (some 0)] := ⟨_, rfl⟩
 have hs34 : Sub h3 h4 := by rw [hh4]; exact (Sub.refl _).app _
 have hg : h4[h3.length]? = some (O.cells [.slice (some ⟨fb, 0, none⟩) 4 4] 29 (some 0)) := by rw [hh4, app_at0]; rfl
 have l3 := hs3.len
 have l4 := hs34.len
 have hm3 : min h0.length h3.length = h0.length := by omega
 have hs24 := hs3.trans hs34
 simp [joined_fl, hf3, wrN_at0, set_at0, ← hh4, hm3, rdN_def, hs24 _ _ hd1]
 have cu := Cusps_ hE (c := 1) (L := 0) (kinkP (hs24 _ _ hk2))
 simp only [dV] at cu
 refine cu.imp ?_
 rintro o ⟨h5, f5⟩ (⟨hne, _⟩ | ⟨_, xs, k, v, hO, rfl, hf5, hs5, hown⟩)
 ·exact absurd ask_K hne
 simp only at hf5 hs5 hown
 have hG := good_of (ask_pos ask_K).1
 have h3c := kink_three xs hG
 obtain ⟨va, rfl⟩ : ∃ a, v = .slice a 3 3 := by
  rcases hown.2 with ⟨_, e⟩ | ⟨b, s, e, _⟩
  ·rw [show 16 * 1 = 16 from rfl, h3c] at e; cases e
  ·rw [show 16 * 1 = 16 from rfl, h3c] at e; exact ⟨_, e⟩
 have hs25 := hs24.trans hs5
 simp [joined_fl, hf5, rdN_def, hs25 _ _ hd2]
 have oc := Outside_ hE (h0 := h5) (a := none) (n := 0) (x := xK) (s := sK) (c := 0) (L := 1) ⟨0, 0, fun h => by omega, fun i hi => by omega⟩
 simp only [dV] at oc
 refine oc.imp ?_
 rintro o st' (⟨_, rfl, rfl⟩ | ⟨he, _⟩)
 rotate_left
 ·rw [ask_C] at he; cases he
 obtain ⟨h6, hh6⟩ : ∃ H, H = h5 ++ [O.cells [.slice none 0 0] 29 (some 0)] := ⟨_, rfl⟩
 have hs56 : Sub h5 h6 := by rw [hh6]; exact (Sub.refl _).app _
 have h6a : h6[h5.length]? = some (O.cells [.slice none 0 0] 29 (some 0)) := by rw [hh6, app_at0]; rfl
 have l5 := hs5.len
 have hm5 : min h0.length h5.length = h0.length := by omega
 have hs26 := hs25.trans hs56
 simp [joined_fl, wrN_def, h6a, set_same h6a, ← hh6, hm5, rdN_def, hs26 _ _ hd1, ask_C]
 have ar := Arc_ hE (c := 1) (L := 0) (kinkP (hs26 _ _ hk2)) (arc := (0 : Int))
 simp only [dV] at ar
 refine ar.imp ?_
 rintro o ⟨h7, f7⟩ (⟨hne, _⟩ | ⟨_, hn, _⟩ | ⟨_, _, b, rfl, _, hf7, hs7, _⟩)
 ·exact absurd ask_K hne
 ·exact absurd (show (0 : Int) ≤ 0 ∧ (0 : Int) < 2 * ((1 : Nat) : Int) from ⟨by omega, by omega⟩) hn
 simp only at hf7 hs7
 have hs27 := hs26.trans hs7
 have hmx := Mixed_ hE (c := 1) (L := 0) (kinkP (hs27 _ _ hk2))
 have hmc := Mixed_ hE (h0 := h7) (a := none) (n := 0) (x := xK) (s := sK) (c := 0) (L := 1) ⟨0, 0, fun h => by omega, fun i hi => by omega⟩
 rw [mix_K] at hmx
 rw [mix_C] at hmc
 simp only [dV] at hmx hmc
 have hg7 := hs7 _ _ (hs56 _ _ (hs5 _ _ hg))
 simp [joined_fl, hf7, rd_def, rdN_def, hg7, hs27 _ _ hd1, hs27 _ _ hd2, DC_of hmx, DC_of hmc]
end Go.Proofs.Ytjlkndkedknocaa
