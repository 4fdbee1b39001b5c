/- Texts that were built one by one: Or3, Or4, Mi7. -/
import Derived.Test.YtjlkndkedknocaaMg
import Derived.Test.YtjlkndkedknocaaMh
import Derived.Test.YtjlkndkedknocaaMf
set_option linter.unusedSimpArgs false
set_option linter.unusedVariables false
namespace Go.Proofs.Ytjlkndkedknocaa
open Go Go.Ai
def xK : Nat → Nat → Int := fun _ j => if j < 2 then 0 else 1
def sK : Nat → Int := fun _ => 1
def TK : Nat → Nat → Nat := fun a k => if a = 0 then (if k = 1 then 1 else 0) else if k = 1 then 2 else if k = 3 then 3 else 0
def GK : Dg := { n := 1, X := fun _ j => if j < 2 then 0 else 1, s := sK, L := 0, T := TK }
theorem kink_T (hG : GoodG (dgOf 1 xK sK 0)) : ∀ a k, a < 2 → k < 4 → (dgOf 1 xK sK 0).T a k = TK a k := by
 have hX : ∀ i j, (dgOf 1 xK sK 0).X i j = if j < 2 then 0 else 1 := fun i j => by
  show (xK i j).toNat = _
  unfold xK; split <;> rfl
 have hs : ∀ i, (dgOf 1 xK sK 0).s i = 1 := fun i => rfl
 have hn : (dgOf 1 xK sK 0).n = 1 := rfl
 have ho : ∀ q, q < 4 → (outB 1 q = true ↔ q = 1 ∨ q = 2) := fun q hq => by
  match q, hq with
  | 0, _ => simp [outB]
  | 1, _ => simp [outB]
  | 2, _ => simp [outB]
  | 3, _ => simp [outB]
 intro a k ha hk
 obtain ⟨t0, t1, t2, t3, x1, x2, _⟩ := hG.T a (by rw [hn]; omega)
 obtain ⟨d1, d2⟩ := hG.dir a (by rw [hn]; omega)
 rw [hs] at d1 d2
 rw [hn] at t0 t2
 rw [hX] at x1 x2
 have e1 := (ho _ t1).1 d1
 have e2 : ¬ ((dgOf 1 xK sK 0).T a 3 = 1 ∨ (dgOf 1 xK sK 0).T a 3 = 2) := fun h => by
  have := (ho _ t3).2 h
  rw [this] at d2; cases d2
 have hk4 : k = 0 ∨ k = 1 ∨ k = 2 ∨ k = 3 := by omega
 have ha2 : a = 0 ∨ a = 1 := by omega
 rcases ha2 with rfl | rfl
 ·split at x1 <;> split at x2 <;> rcases hk4 with rfl | rfl | rfl | rfl <;> simp only [TK] <;> simp <;> omega
 ·split at x1 <;> split at x2 <;> rcases hk4 with rfl | rfl | rfl | rfl <;> simp only [TK] <;> simp <;> omega
theorem kink_out (hG : GoodG (dgOf 1 xK sK 0)) : outF (dgOf 1 xK sK 0) = outF GK := by
 have hT := kink_T hG
 have hn : (dgOf 1 xK sK 0).n = 1 := rfl
 have hal : ∀ a k, a < 2 → alT (dgOf 1 xK sK 0) a k = alT GK a k ∧ alF (dgOf 1 xK sK 0) a k = alF GK a k := fun a k ha => by
  match k with
  | 0 => simp only [alT, alF, hT a 0 ha (by omega), hT a 1 ha (by omega), GK, and_self]
  | 1 => simp only [alT, alF, hT a 2 ha (by omega), hT a 3 ha (by omega), GK, and_self]
  | 2 => simp only [alT, alF, hT a 0 ha (by omega), hT a 1 ha (by omega), GK, and_self]
  | k + 3 => simp only [alT, alF, hT a 2 ha (by omega), hT a 3 ha (by omega), GK, and_self]
 show glA (dgOf 1 xK sK 0) 2 = glA GK 2
 have h0 : glA (dgOf 1 xK sK 0) 0 = glA GK 0 := rfl
 have hJ : ∀ a k F, a < 2 → glJ (dgOf 1 xK sK 0) a k F = glJ GK a k F := fun a k F ha => by
  simp only [glJ, (hal a k ha).1, (hal a k ha).2, (hal a (k + 1) ha).1, (hal a (k + 1) ha).2]
 show glJ _ 1 2 (glJ _ 1 0 (glJ _ 0 2 (glJ _ 0 0 (glA _ 0)))) = glJ _ 1 2 (glJ _ 1 0 (glJ _ 0 2 (glJ _ 0 0 (glA _ 0))))
 rw [h0, hJ 0 0 _ (by omega), hJ 0 2 _ (by omega), hJ 1 0 _ (by omega), hJ 1 2 _ (by omega)]
def clsK (u : Nat) : Nat := [0, 0, 2, 3, 0, 0, 2, 3, 0, 0, 2, 3, 0, 0, 2, 3].getD u 0
theorem kink_inv : ∀ u, u < 16 → ∀ f, f < 4 → (match nbF (outF GK) u f with | some w => decide (w < 16 ∧ clsK w = clsK u) | none => true) = true := by decide
theorem kink_cls {a b : Nat} (ha : a < 16) (h : VC (nbF (outF GK)) a b) : b < 16 ∧ clsK b = clsK a := by
 induction h with
 | refl => exact ⟨ha, rfl⟩
 | @step b w f _ hf hw ih =>
  have := kink_inv b ih.1 f hf
  rw [hw] at this
  have := of_decide_eq_true this
  exact ⟨this.1, this.2.trans ih.2⟩
theorem kink_lead {v : Nat} (h : ∀ w, w < v → w < 16 ∧ clsK v ≠ clsK w) : ¬ ∃ w, w < v ∧ VC (nbF (outF GK)) w v := by
 rintro ⟨w, h1, h2⟩
 obtain ⟨h3, h4⟩ := h w h1
 exact h4 (kink_cls h3 h2).2
theorem kink_step {u w f v : Nat} (h : VC (nbF (outF GK)) v u) (hf : f < 4) (hw : nbF (outF GK) u f = some w) : VC (nbF (outF GK)) v w := h.step f hf hw
theorem kv0 : firstsV (nbF (outF GK)) 1 = firstsV (nbF (outF GK)) 0 ++ [0] := firstsV_new (kink_lead (by decide))
theorem kv1 : firstsV (nbF (outF GK)) 2 = firstsV (nbF (outF GK)) 1 := firstsV_old ⟨0, by decide, (kink_step (u := 0) (w := 1) (f := 1) (VC.refl 0) (by decide) (by decide))⟩
theorem kv2 : firstsV (nbF (outF GK)) 3 = firstsV (nbF (outF GK)) 2 ++ [2] := firstsV_new (kink_lead (by decide))
theorem kv3 : firstsV (nbF (outF GK)) 4 = firstsV (nbF (outF GK)) 3 ++ [3] := firstsV_new (kink_lead (by decide))
theorem kv4 : firstsV (nbF (outF GK)) 5 = firstsV (nbF (outF GK)) 4 := firstsV_old ⟨0, by decide, (kink_step (u := 0) (w := 4) (f := 2) (VC.refl 0) (by decide) (by decide))⟩
theorem kv5 : firstsV (nbF (outF GK)) 6 = firstsV (nbF (outF GK)) 5 := firstsV_old ⟨0, by decide, (kink_step (u := 1) (w := 5) (f := 2) (kink_step (u := 0) (w := 1) (f := 1) (VC.refl 0) (by decide) (by decide)) (by decide) (by decide))⟩
theorem kv6 : firstsV (nbF (outF GK)) 7 = firstsV (nbF (outF GK)) 6 := firstsV_old ⟨2, by decide, (kink_step (u := 14) (w := 6) (f := 0) (kink_step (u := 2) (w := 14) (f := 3) (VC.refl 2) (by decide) (by decide)) (by decide) (by decide))⟩
theorem kv7 : firstsV (nbF (outF GK)) 8 = firstsV (nbF (outF GK)) 7 := firstsV_old ⟨3, by decide, (kink_step (u := 3) (w := 7) (f := 2) (VC.refl 3) (by decide) (by decide))⟩
theorem kv8 : firstsV (nbF (outF GK)) 9 = firstsV (nbF (outF GK)) 8 := firstsV_old ⟨0, by decide, (kink_step (u := 4) (w := 8) (f := 3) (kink_step (u := 0) (w := 4) (f := 2) (VC.refl 0) (by decide) (by decide)) (by decide) (by decide))⟩
theorem kv9 : firstsV (nbF (outF GK)) 10 = firstsV (nbF (outF GK)) 9 := firstsV_old ⟨0, by decide, (kink_step (u := 5) (w := 9) (f := 3) (kink_step (u := 1) (w := 5) (f := 2) (kink_step (u := 0) (w := 1) (f := 1) (VC.refl 0) (by decide) (by decide)) (by decide) (by decide)) (by decide) (by decide))⟩
theorem kv10 : firstsV (nbF (outF GK)) 11 = firstsV (nbF (outF GK)) 10 := firstsV_old ⟨2, by decide, (kink_step (u := 6) (w := 10) (f := 3) (kink_step (u := 14) (w := 6) (f := 0) (kink_step (u := 2) (w := 14) (f := 3) (VC.refl 2) (by decide) (by decide)) (by decide) (by decide)) (by decide) (by decide))⟩
theorem kv11 : firstsV (nbF (outF GK)) 12 = firstsV (nbF (outF GK)) 11 := firstsV_old ⟨3, by decide, (kink_step (u := 15) (w := 11) (f := 2) (kink_step (u := 7) (w := 15) (f := 0) (kink_step (u := 3) (w := 7) (f := 2) (VC.refl 3) (by decide) (by decide)) (by decide) (by decide)) (by decide) (by decide))⟩
theorem kv12 : firstsV (nbF (outF GK)) 13 = firstsV (nbF (outF GK)) 12 := firstsV_old ⟨0, by decide, (kink_step (u := 0) (w := 12) (f := 3) (VC.refl 0) (by decide) (by decide))⟩
theorem kv13 : firstsV (nbF (outF GK)) 14 = firstsV (nbF (outF GK)) 13 := firstsV_old ⟨0, by decide, (kink_step (u := 1) (w := 13) (f := 3) (kink_step (u := 0) (w := 1) (f := 1) (VC.refl 0) (by decide) (by decide)) (by decide) (by decide))⟩
theorem kv14 : firstsV (nbF (outF GK)) 15 = firstsV (nbF (outF GK)) 14 := firstsV_old ⟨2, by decide, (kink_step (u := 2) (w := 14) (f := 3) (VC.refl 2) (by decide) (by decide))⟩
theorem kv15 : firstsV (nbF (outF GK)) 16 = firstsV (nbF (outF GK)) 15 := firstsV_old ⟨3, by decide, (kink_step (u := 7) (w := 15) (f := 0) (kink_step (u := 3) (w := 7) (f := 2) (VC.refl 3) (by decide) (by decide)) (by decide) (by decide))⟩
theorem kink_three (xs : List Int) (hG : GoodG (dgOf 1 xK sK 0)) : (cuspL (dgOf 1 xK sK 0) xs 16).length = 3 := by
 unfold cuspL
 rw [List.length_map, kink_out hG, kv15, kv14, kv13, kv12, kv11, kv10, kv9, kv8, kv7, kv6, kv5, kv4, kv3, kv2, kv1, kv0]
 rfl
end Go.Proofs.Ytjlkndkedknocaa
namespace Go.Proofs.Ytjlkndkedknocaa
open Go Go.Ai
attribute [local instance] Classical.propDecidable
theorem seenI_some {x : Option (Out × St)} {n : Int} (h : seenI x = some n) : ∃ k st, x = some (.ret (.int k n), st) := by
 unfold seenI at h
 split at h
 ·rename_i k m st
  obtain rfl := Option.some.inj h
  exact ⟨k, st, rfl⟩
 ·cases h
theorem kinkP {h : List O} {b : Nat} {el : TypeId} {own : Option Nat} (hb : h[b]? = some (.cells [.int .i64 0, .int .i64 0, .int .i64 1, .int .i64 1, .int .i64 1] el own)) : CrossP h (some ⟨b, 0, none⟩) 1 xK sK := by
 refine ⟨b, 0, fun _ => rfl, fun i hi => ?_⟩
 obtain rfl : i = 0 := by omega
 rw [rdN_def, hb]
 simp [crossC, xK, sK]
theorem ask_K : askD 1 xK sK 0 = 0 := by
 obtain ⟨k, st, h⟩ := seenI_some ask_kink
 have hx : CrossP kinkH (some ⟨0, 0, none⟩) 1 xK sK := kinkP rfl
 have h1 := asked_ E0_OE (c := 1) (L := 0) hx
 have h2 : DR E0 84 [kinkV] ⟨kinkH, 1⟩ (.ret (.int k 0)) st := ⟨300, h⟩
 have h3 := (DR.unique h1 h2).1
 simp only [Out.ret.injEq, Value.int.injEq] at h3
 exact h3.2
theorem ask_C : askD 0 xK sK 1 = 290 := by
 obtain ⟨k, st, h⟩ := seenI_some ask_circ
 have hx : CrossP [] none 0 xK sK := ⟨0, 0, fun h => by omega, fun i hi => by omega⟩
 have h1 := asked_ E0_OE (c := 0) (L := 1) hx
 have h2 : DR E0 84 [circV] ⟨[], 0⟩ (.ret (.int k 290)) st := ⟨300, h⟩
 have h3 := (DR.unique h1 h2).1
 simp only [Out.ret.injEq, Value.int.injEq] at h3
 exact h3.2
theorem mix_K : mixD 1 xK sK 0 = true := by
 have := ask_zero ask_K
 unfold mixD
 exact decide_eq_true this
theorem mix_C : mixD 0 xK sK 1 = false := by
 unfold mixD
 refine decide_eq_false fun h => ?_
 have := ask_C
 unfold askD at this
 rw [if_neg (by simp [h.1]), if_pos h.2] at this
 cases this
variable {E : Env} (hE : OE E)
include hE
theorem Kink_ {h : List O} : DR E 80 [] ⟨h, h.length⟩ (.ret (dV (some ⟨h.length + 1, 0, none⟩) 1 1 0)) ⟨h ++ [.cells [.slice (some ⟨h.length + 1, 0, none⟩) 1 1, .int .i64 0] 24 (some 0), .cells [.int .i64 0, .int .i64 0, .int .i64 1, .int .i64 1, .int .i64 1] 107 (some 0)], h.length⟩ := by
 refine hE.fn (body := rb80) rfl ?_
 unfold rb80
 simp [dV, List.append_assoc, wrN_at0, set_at0, rdN_at0, back, Out.scalar, scalar, flat1, flat]
theorem sane_ {h0 : List O} : DR E 15 [] ⟨h0, h0.length⟩ (.ret (.bool true)) ⟨h0, h0.length⟩ := by
 refine hE.fn (body := rb15) rfl ?_
 unfold rb15
 obtain ⟨h1, hh1⟩ : ∃ H, H = h0 ++ [O.cells [.slice (some ⟨h0.length + 1, 0, none⟩) 1 1, .int .i64 0] 24 (some 0), O.cells [.int .i64 0, .int .i64 0, .int .i64 1, .int .i64 1, .int .i64 1] 107 (some 0)] := ⟨_, rfl⟩
 have hk1 : h1[h0.length + 1]? = some (O.cells [.int .i64 0, .int .i64 0, .int .i64 1, .int .i64 1, .int .i64 1] 107 (some 0)) := by rw [hh1, app_at]; rfl
 have l1 : h1.length = h0.length + 2 := by rw [hh1]; simp
 have hki := Kink_ hE (h := h0)
 simp only [dV, ← hh1] at hki
 obtain ⟨h2, hh2⟩ : ∃ H, H = h1 ++ [O.cells [.slice (some ⟨h0.length + 1, 0, none⟩) 1 1, .int .i64 0] 24 (some 0), O.cells [.slice none 0 0, .int .i64 1] 24 (some 0)] := ⟨_, rfl⟩
 have hs12 : Sub h1 h2 := by rw [hh2]; exact (Sub.refl _).app _
 have hd1 : h2[h1.length]? = some (O.cells [.slice (some ⟨h0.length + 1, 0, none⟩) 1 1, .int .i64 0] 24 (some 0)) := by rw [hh2, app_at0]; rfl
 have hd2 : h2[h1.length + 1]? = some (O.cells [.slice none 0 0, .int .i64 1] 24 (some 0)) := by rw [hh2, app_at]; rfl
 have l2 : h2.length = h1.length + 2 := by rw [hh2]; simp
 have hk2 := hs12 _ _ hk1
 have hm1 : min h0.length h1.length = h0.length := by omega
 have hm2 : min h0.length (h1.length + 1) = h0.length := by omega
 simp [DC_of hki, joined_fl, wrN_at0, set_at0, wrN_at, set_at, List.append_assoc, hm1, hm2, ← hh2, rdN_def, hd1]
 have ou := Outside_ hE (c := 1) (L := 0) (kinkP hk2)
 simp only [dV] at ou
 refine ou.imp ?_
 rintro o ⟨h3, f3⟩ (⟨hne, _⟩ | ⟨_, fb, rfl, _, hf3, hs3, cs', _, _⟩)
 ·exact absurd ask_K hne
 simp only at hf3 hs3
 obtain ⟨h4, hh4⟩ : ∃ H, H = h3 ++ [O.cells [.slice (some ⟨fb, 0, none⟩) 4 4] 29 (some 0)] := ⟨_, rfl⟩
 have hs34 : Sub h3 h4 := by rw [hh4]; exact (Sub.refl _).app _
 have hg : h4[h3.length]? = some (O.cells [.slice (some ⟨fb, 0, none⟩) 4 4] 29 (some 0)) := by rw [hh4, app_at0]; rfl
 have l3 := hs3.len
 have l4 := hs34.len
 have hm3 : min h0.length h3.length = h0.length := by omega
 have hs24 := hs3.trans hs34
 simp [joined_fl, hf3, wrN_at0, set_at0, ← hh4, hm3, rdN_def, hs24 _ _ hd1]
 have cu := Cusps_ hE (c := 1) (L := 0) (kinkP (hs24 _ _ hk2))
 simp only [dV] at cu
 refine cu.imp ?_
 rintro o ⟨h5, f5⟩ (⟨hne, _⟩ | ⟨_, xs, k, v, hO, rfl, hf5, hs5, hown⟩)
 ·exact absurd ask_K hne
 simp only at hf5 hs5 hown
 have hG := good_of (ask_pos ask_K).1
 have h3c := kink_three xs hG
 obtain ⟨va, rfl⟩ : ∃ a, v = .slice a 3 3 := by
  rcases hown.2 with ⟨_, e⟩ | ⟨b, s, e, _⟩
  ·rw [show 16 * 1 = 16 from rfl, h3c] at e; cases e
  ·rw [show 16 * 1 = 16 from rfl, h3c] at e; exact ⟨_, e⟩
 have hs25 := hs24.trans hs5
 simp [joined_fl, hf5, rdN_def, hs25 _ _ hd2]
 have oc := Outside_ hE (h0 := h5) (a := none) (n := 0) (x := xK) (s := sK) (c := 0) (L := 1) ⟨0, 0, fun h => by omega, fun i hi => by omega⟩
 simp only [dV] at oc
 refine oc.imp ?_
 rintro o st' (⟨_, rfl, rfl⟩ | ⟨he, _⟩)
 rotate_left
 ·rw [ask_C] at he; cases he
 obtain ⟨h6, hh6⟩ : ∃ H, H = h5 ++ [O.cells [.slice none 0 0] 29 (some 0)] := ⟨_, rfl⟩
 have hs56 : Sub h5 h6 := by rw [hh6]; exact (Sub.refl _).app _
 have h6a : h6[h5.length]? = some (O.cells [.slice none 0 0] 29 (some 0)) := by rw [hh6, app_at0]; rfl
 have l5 := hs5.len
 have hm5 : min h0.length h5.length = h0.length := by omega
 have hs26 := hs25.trans hs56
 simp [joined_fl, wrN_def, h6a, set_same h6a, ← hh6, hm5, rdN_def, hs26 _ _ hd1, ask_C]
 have ar := Arc_ hE (c := 1) (L := 0) (kinkP (hs26 _ _ hk2)) (arc := (0 : Int))
 simp only [dV] at ar
 refine ar.imp ?_
 rintro o ⟨h7, f7⟩ (⟨hne, _⟩ | ⟨_, hn, _⟩ | ⟨_, _, b, rfl, _, hf7, hs7, _⟩)
 ·exact absurd ask_K hne
 ·exact absurd (show (0 : Int) ≤ 0 ∧ (0 : Int) < 2 * ((1 : Nat) : Int) from ⟨by omega, by omega⟩) hn
 simp only at hf7 hs7
 have hs27 := hs26.trans hs7
 have hmx := Mixed_ hE (c := 1) (L := 0) (kinkP (hs27 _ _ hk2))
 have hmc := Mixed_ hE (h0 := h7) (a := none) (n := 0) (x := xK) (s := sK) (c := 0) (L := 1) ⟨0, 0, fun h => by omega, fun i hi => by omega⟩
 rw [mix_K] at hmx
 rw [mix_C] at hmc
 simp only [dV] at hmx hmc
 have hg7 := hs7 _ _ (hs56 _ _ (hs5 _ _ hg))
 simp [joined_fl, hf7, rd_def, rdN_def, hg7, hs27 _ _ hd1, hs27 _ _ hd2, DC_of hmx, DC_of hmc]
end Go.Proofs.Ytjlkndkedknocaa
namespace Go.Proofs.Ytjlkndkedknocaa
open Go Go.Ai
attribute [local instance] Classical.propDecidable
theorem beT_perm : ∀ r, r < 2 → (∀ a, a < 4 → beT r a < 4) ∧ ∀ a, a < 4 → ∀ b, b < 4 → beT r a = beT r b → a = b := by decide +kernel
theorem isoT {G H : Dg} {π : Nat → Nat → Nat} (h : Der G H π) (hG : GoodG G) (hH : GoodG H) {b : Nat → Nat} {r : Nat} (hb : ∀ c q, π c q = (q + b c) % 4) (hr : ∀ c, b c % 2 = r) : IsoG (4 * G.n) (outE H) (outE G) (tauT b) (beT r) := by
 have h2 : r < 2 := by have := hr 0; omega
 exact ⟨fun t ht => tauT_lt ht, fun t u _ _ e => tauT_inj e, fun t f ht hf => outE_turn h hG hH hb hr ht hf, ⟨(beT_perm r h2).1, fun a b ha hb e => (beT_perm r h2).2 a ha b hb e⟩, fun sw i hi => beT_pm (by omega) sw hi⟩
theorem isoR {G H : Dg} (h : Der G H (fun _ q => (4 - q) % 4)) (hG : GoodG G) (hH : GoodG H) : IsoG (4 * G.n) (outE H) (outE G) tauR (beT 0) :=
 ⟨fun t ht => tauR_lt ht, fun t u _ _ e => tauR_inj e, fun t f ht hf => outE_refl h hG hH ht hf, ⟨(beT_perm 0 (by omega)).1, fun a b ha hb e => (beT_perm 0 (by omega)).2 a ha b hb e⟩, fun sw i hi => beT_pm (.inl rfl) sw hi⟩
variable {E : Env} (hE : OE E)
include hE
theorem outsD_ {h0 : List O} {a : Option Addr} {n c : Nat} {x : Nat → Nat → Int} {s : Nat → Int} {L : Int} (hx : CrossP h0 a n x s) (hA : askD n x s L = 0) :
  DC E 18 [dV a n c L] ⟨h0, h0.length⟩ fun o st' => ∃ fb, o = .ret (.tuple #[.agg #[.slice fb (4 * n) (4 * n)], .int .i64 0]) ∧ h0.length ≤ st'.fl ∧ Sub h0 st'.h ∧ GluP st'.h fb (4 * n) (outE (dgOf n x s L)) := by
 refine (Outside_ hE hx).imp ?_
 rintro o st' (⟨h1, _⟩ | ⟨_, fb, rfl, _, h2, h3, cs', h4, h5⟩)
 ·exact absurd hA h1
 obtain ⟨hS, hn, hsz⟩ := ask_pos hA
 refine ⟨some ⟨fb, 0, none⟩, rfl, h2, h3, by omega, by omega, fb, cs', _, _, rfl, h4, h5.1, fun t f ht hf j hj => ?_⟩
 have := h5.2 t f ht hf j hj
 rw [outF_eq (good_of hS) ht hf] at this
 exact this
theorem law5 {h0 : List O} {a : Option Addr} {n c : Nat} {x : Nat → Nat → Int} {s : Nat → Int} {L : Int} (hx : CrossP h0 a n x s) (hroom : n * 40 ≤ roomMax) (hsane : ∀ h, DR E 15 [] ⟨h, h.length⟩ (.ret (.bool true)) ⟨h, h.length⟩) :
  DR E 5 [dV a n c L] ⟨h0, h0.length⟩ (.ret (.bool true)) ⟨h0, h0.length⟩ := by
 refine hE.fn (body := rb5) rfl ?_
 unfold rb5
 obtain ⟨hB, hhB⟩ : ∃ H, H = h0 ++ [O.cells [.slice a n c, .int .i64 L] 24 (some 0)] := ⟨_, rfl⟩
 have hBs : Sub h0 hB := by rw [hhB]; exact (Sub.refl _).app _
 have lB : hB.length = h0.length + 1 := by rw [hhB]; simp
 have hB0 : hB[h0.length]? = some (O.cells [.slice a n c, .int .i64 L] 24 (some 0)) := by rw [hhB, app_at0]; rfl
 have hfew := few_ hE (h := hB) (a := a) (n := n) (c := c) (L := L)
 have hmx := Mixed_ hE (c := c) (L := L) (hx.sub hBs)
 have hj : joined ⟨hB, h0.length⟩ ⟨hB, hB.length⟩ = ⟨hB, h0.length⟩ := joined_mk _ _
 have hjm : ∀ (g g' : List O) (f : Nat), g.length ≤ f → h0.length ≤ g.length → joined ⟨g, h0.length⟩ ⟨g', f⟩ = ⟨g', h0.length⟩ := fun g g' f h1 h2 => by
  simp only [joined]
  split
  ·congr 1; omega
  ·rfl
 simp [dV, ← hhB, DC_q hsane, rdN_def, hB0]
 simp only [dV] at hfew hmx
 by_cases hn : n ≤ 8 ∨ 200 < n
 rotate_left
 ·simp only [hn, decide_false] at hfew
  simp [DC_of hfew, hj]
 simp only [hn, decide_true] at hfew
 cases hmd : mixD n x s L
 ·rw [hmd] at hmx
  simp [DC_of hfew, DC_of hmx, hj, rdN_def, ↓hB0]
 rw [hmd] at hmx
 have hA : askD n x s L = 0 := by
  have := of_decide_eq_true hmd
  unfold askD
  rw [if_neg (by simp [this.1]), if_pos this.2]
 obtain ⟨hS, hn0, hsz⟩ := ask_pos hA
 have ho1 := outsD_ hE (c := c) (hx.sub hBs) hA
 simp only [dV] at ho1
 simp [DC_of hfew, DC_of hmx, hj, rdN_def, ↓hB0]
 refine ho1.imp ?_
 rintro o ⟨h1, f1⟩ ⟨g1, rfl, hf1, hs1, hG1⟩
 simp only at hf1 hs1 hG1
 have ls1 := hs1.len
 obtain ⟨h2, hh2⟩ : ∃ H, H = h1 ++ [O.cells [.slice g1 (4 * n) (4 * n)] 29 (some 0)] := ⟨_, rfl⟩
 have s2 : Sub h1 h2 := by rw [hh2]; exact (Sub.refl _).app _
 have ls2 : h2.length = h1.length + 1 := by rw [hh2]; simp
 have q2 : h2[h1.length]? = some (O.cells [.slice g1 (4 * n) (4 * n)] 29 (some 0)) := by rw [hh2, app_at0]; rfl
 have d2 := s2 _ _ (hs1 _ _ hB0)
 have hm1 : min h0.length h1.length = h0.length := by omega
 have sB2 : Sub h0 h2 := hBs.trans (hs1.trans s2)
 have mi := Mirror_ hE (c := c) (L := L) (hx.sub sB2) hS
 simp only [dV] at mi
 simp [hjm _ _ _ hf1 (by omega), wrN_at0, set_at0, hm1, ↓← hh2, rdN_def, ↓d2]
 refine mi.imp ?_
 rintro o ⟨h3, f3⟩ ⟨a3, rfl, hs3, hf3, hx3⟩
 simp only at hf3 hs3 hx3
 have ls3 := hs3.len
 have ho3 := outsD_ hE (c := n) hx3 (ask_mir hA)
 simp [hjm _ _ _ hf3 (by omega)]
 refine ho3.imp ?_
 rintro o ⟨h4, f4⟩ ⟨g4, rfl, hf4, hs4, hG4⟩
 simp only at hf4 hs4 hG4
 have ls4 := hs4.len
 obtain ⟨h5, hh5⟩ : ∃ H, H = h4 ++ [O.cells [.slice g4 (4 * n) (4 * n)] 29 (some 0)] := ⟨_, rfl⟩
 have s5 : Sub h4 h5 := by rw [hh5]; exact (Sub.refl _).app _
 have ls5 : h5.length = h4.length + 1 := by rw [hh5]; simp
 have q5 : h5[h4.length]? = some (O.cells [.slice g4 (4 * n) (4 * n)] 29 (some 0)) := by rw [hh5, app_at0]; rfl
 have s25 : Sub h2 h5 := hs3.trans (hs4.trans s5)
 have d5 := s25 _ _ d2
 have hm4 : min h0.length h4.length = h0.length := by omega
 have rf := Reflect_ hE (c := c) (L := L) (hx.sub (sB2.trans s25)) hS
 simp only [dV] at rf
 simp [hjm _ _ _ hf4 (by omega), wrN_at0, set_at0, hm4, ↓← hh5, rdN_def, ↓d5]
 refine rf.imp ?_
 rintro o ⟨h6, f6⟩ ⟨a6, rfl, hs6, hf6, hx6⟩
 simp only at hf6 hs6 hx6
 have ls6 := hs6.len
 have ho6 := outsD_ hE (c := n) hx6 (ask_ref hA)
 simp [hjm _ _ _ hf6 (by omega)]
 refine ho6.imp ?_
 rintro o ⟨h7, f7⟩ ⟨g7, rfl, hf7, hs7, hG7⟩
 simp only at hf7 hs7 hG7
 have ls7 := hs7.len
 obtain ⟨h8, hh8⟩ : ∃ H, H = h7 ++ [O.cells [.slice g7 (4 * n) (4 * n)] 29 (some 0)] := ⟨_, rfl⟩
 have s8 : Sub h7 h8 := by rw [hh8]; exact (Sub.refl _).app _
 have ls8 : h8.length = h7.length + 1 := by rw [hh8]; simp
 have q8 : h8[h7.length]? = some (O.cells [.slice g7 (4 * n) (4 * n)] 29 (some 0)) := by rw [hh8, app_at0]; rfl
 have s58 : Sub h5 h8 := hs6.trans (hs7.trans s8)
 have d8 := s58 _ _ d5
 have hm7 : min h0.length h7.length = h0.length := by omega
 have ct := count_ hE (c := c) (L := L) (hx.sub (sB2.trans (s25.trans s58))) hS
 simp only [dV] at ct
 simp [hjm _ _ _ hf7 (by omega), wrN_at0, set_at0, hm7, ↓← hh8, rdN_def, ↓d8]
 refine ct.imp ?_
 rintro o st' ⟨xs, k, hO, hk, rfl, rfl⟩
 have hL : L = 0 := (ask_zero hA).2.2.1
 subst hL
 have z1 : (k : Int) * 8 ≤ 140737488355328 := by omega
 have z2 : (k : Int) < 4611686018427387904 := by omega
 have hj8 : joined ⟨h8, h0.length⟩ ⟨h8, h8.length⟩ = ⟨h8, h0.length⟩ := joined_mk _ _
 obtain ⟨h9, hh9⟩ : ∃ H, H = h8 ++ [O.cells (rep k [Value.int .i64 0]) 3 (some 0)] := ⟨_, rfl⟩
 have s9 : Sub h8 h9 := by rw [hh9]; exact (Sub.refl _).app _
 have ls9 : h9.length = h8.length + 1 := by rw [hh9]; simp
 have q9 : h9[h8.length]? = some (O.cells (intsC (List.replicate k 0)) 3 (some 0)) := by rw [hh9, app_at0]; simp [rep, intsC]
 simp [hj8, z1, z2, ↓← hh9]
 obtain ⟨V, hV⟩ : ∃ V, V = h8.length := ⟨_, rfl⟩
 rw [← hV] at q9 ⊢
 have hmV : min h0.length V = h0.length := by omega
 refine DW_loop (fun kk fr st => ∃ (i : Nat) (h' : List O) (ys : List Int), i + kk = k ∧ st = ⟨h', h0.length⟩ ∧ ys.length = k ∧ (∀ j, j < i → nth ys j = j) ∧ (∀ (b : Nat) (o : O), h9[b]? = some o → b ≠ V → h'[b]? = some o) ∧ h'[V]? = some (.cells (intsC ys) 3 (some 0)) ∧ h'.length = h9.length ∧
  get fr 1 = .pointer (some ⟨h0.length, 0, none⟩) ∧ get fr 3 = .pointer (some ⟨h1.length, 0, none⟩) ∧ get fr 4 = .int .i64 0 ∧ get fr 5 = .pointer (some ⟨h4.length, 0, none⟩) ∧ get fr 6 = .int .i64 0 ∧ get fr 7 = .pointer (some ⟨h7.length, 0, none⟩) ∧ get fr 8 = .int .i64 0 ∧ get fr 9 = .slice (some ⟨V, 0, none⟩) k k ∧ get fr 10 = .int .i64 i) ?_ (k := k) ?_
 ·rintro kk fr st ⟨i, h', ys, hik, rfl, hyl, hy, hK, hat, hlen, g1', g3, g4', g5, g6, g7', g8, g9, g10⟩
  by_cases hi : i < k
  ·have hw : IntKind.i64.wrap ((i : Int) + 1) = (i : Int) + 1 := by rw [w64_id] <;> omega
   have hi2 : i < ys.length := by omega
   have hi3 : i + 1 ≤ ys.length := by omega
   simp [g1', g3, g4', g5, g6, g7', g8, g9, g10, hi, ↓hat, wrN_def, hi3, hmV, hw, intsC_set]
   refine ⟨kk - 1, by omega, i + 1, by omega, ys.set i (i : Int), by simp [hyl], fun j hj => ?_, fun b o hb hne => set_ne (hK b o hb hne) hne, set_self hat, hlen, by omega⟩
   rw [nth_set hi2]
   split
   ·rename_i e; rw [e]
   ·exact hy j (by omega)
  ·have hK8 : Sub h8 h' := fun b o hb => hK _ _ (s9 _ _ hb) (by have := (List.getElem?_eq_some_iff.1 hb).1; omega)
   have dd := hK8 _ _ d8
   have sBh : Sub h0 h' := sB2.trans (s25.trans (s58.trans hK8))
   have hlh : h8.length ≤ h'.length := by omega
   have hints : Ints h' (.slice (some ⟨V, 0, none⟩) ys.length ys.length) ys := ⟨_, V, 0, _, rfl, fun _ => rfl, fun j hj => by rw [rd_def, hat, Nat.zero_add]; exact intsC_get hj, fun j => by
    by_cases hj : j < k
    ·rw [hy j (by omega)]; constructor <;> omega
    ·have : nth ys j = 0 := by simp [Ai.nth, show ¬ j < ys.length by omega]
     rw [this]; constructor <;> omega, by omega⟩
   rw [hyl] at hints
   have hall : ∀ xs' k', OrbI (2 * n) (nx (dgOf n x s 0)) (2 * n) k' xs' → ∀ b, b < 2 * n → nth xs' b ∈ ys := fun xs' k' hO' b hb => by
    obtain ⟨rfl, rfl⟩ := orb_unique hO' hO
    have h1 := hO'.done b hb
    have h2 := hO'.val b hb
    obtain ⟨j, hj⟩ : ∃ j : Nat, nth xs' b = j := ⟨(nth xs' b).toNat, by omega⟩
    have h3 := hy j (by omega)
    rw [hj, ← h3]
    exact nth_mem (by omega)
   have rv := Reverse_ hE (c := c) (L := 0) (hx.sub sBh) hS hints hall
   simp only [dV] at rv
   simp [g1', g3, g4', g5, g6, g7', g8, g9, g10, hi, rdN_def, ↓dd]
   refine rv.imp ?_
   rintro o ⟨h11, f11⟩ ⟨a11, rfl, hs11, hf11, hx11⟩
   simp only at hf11 hs11 hx11
   have ls11 := hs11.len
   have ho11 := outsD_ hE (c := n) hx11 (ask_rev hA)
   simp [hjm _ _ _ hf11 (by omega)]
   refine ho11.imp ?_
   rintro o ⟨h12, f12⟩ ⟨g12, rfl, hf12, hs12, hG12⟩
   simp only at hf12 hs12 hG12
   have ls12 := hs12.len
   obtain ⟨h13, hh13⟩ : ∃ H, H = h12 ++ [O.cells [.slice g12 (4 * n) (4 * n)] 29 (some 0)] := ⟨_, rfl⟩
   have s13 : Sub h12 h13 := by rw [hh13]; exact (Sub.refl _).app _
   have ls13 : h13.length = h12.length + 1 := by rw [hh13]; simp
   have q13 : h13[h12.length]? = some (O.cells [.slice g12 (4 * n) (4 * n)] 29 (some 0)) := by rw [hh13, app_at0]; rfl
   have hm12 : min h0.length h12.length = h0.length := by omega
   have sK : Sub h' h13 := hs11.trans (hs12.trans s13)
   have s8K : Sub h8 h13 := hK8.trans sK
   have k8 := s8K _ _ q8
   have k5 := s8K _ _ (s58 _ _ q5)
   have k2 := s8K _ _ (s58 _ _ (s25 _ _ q2))
   have G1 := hG1.sub (s2.trans (s25.trans (s58.trans s8K)))
   have G4 := hG4.sub (s5.trans (s58.trans s8K))
   have G7 := hG7.sub (s8.trans s8K)
   have G12 := hG12.sub s13
   have U0 := glu_of hA
   have Um := glu_of (ask_mir hA)
   have Uf := glu_of (ask_ref hA)
   have Uv := glu_of (ask_rev hA)
   have I1 := isoT (der_of (x := x) (x' := mirX x s) (s := s) (s' := negS s) (L := 0) (n := n) (fun i q => (q + mirB (s i)) % 4) (fun i q => rfl) (fun i q => Nat.mod_lt _ (by omega)) (fun i q r hq hr e => by omega)) (good_of hS) (good_of (snd_mir hS)) (b := fun c => mirB (s c)) (r := 1) (fun c q => rfl) (fun c => by have := mir_par (s c); omega)
   have I2 := isoR (der_of (x := x) (x' := refX x) (s := s) (s' := negS s) (L := 0) (n := n) (fun i q => (4 - q) % 4) (fun i q => rfl) (fun i q => Nat.mod_lt _ (by omega)) (fun i q r hq hr e => by omega)) (good_of hS) (good_of (snd_ref hS))
   have I3 := isoT (der_of (x := x) (x' := revX x) (s := s) (s' := s) (L := 0) (n := n) (fun i q => (q + 2) % 4) (fun i q => rfl) (fun i q => Nat.mod_lt _ (by omega)) (fun i q r hq hr e => by omega)) (good_of hS) (good_of (snd_rev hS)) (b := fun _ => 2) (r := 0) (fun c q => rfl) (fun c => rfl)
   have R1 := renum_ hE (c1 := 4 * n) (c2 := 4 * n) G4 Um G1 U0 I1 (show 7 * 1 < 24 by omega) (fun i hi => nthP_be 1 (by omega) i hi)
   have R2 := renum_ hE (c1 := 4 * n) (c2 := 4 * n) G7 Uf G1 U0 I2 (show 7 * 0 < 24 by omega) (fun i hi => nthP_be 0 (by omega) i hi)
   have R3 := renum_ hE (c1 := 4 * n) (c2 := 4 * n) G12 Uv G1 U0 I3 (show 7 * 0 < 24 by omega) (fun i hi => nthP_be 0 (by omega) i hi)
   have hj13 : joined ⟨h13, h0.length⟩ ⟨h13, h13.length⟩ = ⟨h13, h0.length⟩ := joined_mk _ _
   simp [hjm _ _ _ hf12 (by omega), wrN_at0, set_at0, hm12, ↓← hh13, g3, g4', g5, g6, g7', g8, rdN_def, ↓k2, ↓k5, ↓k8, ↓q13, DC_of R1, DC_of R2, DC_of R3, hj13]
 ·exact ⟨0, h9, List.replicate k 0, by omega, rfl, by simp, fun j hj => by omega, fun b o hb _ => hb, q9, rfl, by simp⟩
end Go.Proofs.Ytjlkndkedknocaa
