/- The chapter's examples hold, in every memory. -/
import Derived.Test.YtjlkndkedknocaaOr3m
import Derived.Test.YtjlkndkedknocaaMi
namespace Go.Proofs.Ytjlkndkedknocaa
open Go Go.Ai
set_option linter.unusedSimpArgs false
set_option linter.unusedVariables false
attribute [local instance] Classical.propDecidable
theorem E0_cmp : E0.cmp = cmpT := by unfold E0; rfl
theorem E0_S (f : FuncId) : E0.S f = none := by unfold E0; rfl
theorem E0_OE : OE E0 := by
  refine ⟨fun f rf h => h, fun f h => E0_S f, fun k => E0_S _, ?_, ?_, ?_, ?_⟩ <;> rw [E0_cmp]
  · exact cmp86a
  · exact cmp86b
  · exact cmp111a
  · exact cmp111b
theorem seenI_some {x : Option (Out × St)} {n : Int} (h : seenI x = some n) : ∃ k st, x = some (.ret (.int k n), st) := by
  unfold seenI at h
  split at h
  · rename_i k m st
    obtain rfl := Option.some.inj h
    exact ⟨k, st, rfl⟩
  · cases h
theorem kinkP {h : List O} {b : Nat} {el : TypeId} {own : Option Nat} (hb : h[b]? = some (.cells [.int .i64 0, .int .i64 0, .int .i64 1, .int .i64 1, .int .i64 1] el own)) : CrossP h (some ⟨b, 0, none⟩) 1 xK sK := by
  refine ⟨b, 0, fun _ => rfl, fun i hi => ?_⟩
  obtain rfl : i = 0 := by omega
  rw [rdN_def, hb]
  simp [crossC, xK, sK]
theorem ask_K : askD 1 xK sK 0 = 0 := by
  obtain ⟨k, st, h⟩ := seenI_some ask_kink
  have hx : CrossP kinkH (some ⟨0, 0, none⟩) 1 xK sK := kinkP rfl
  have h1 := asked_ E0_OE (c := 1) (L := 0) hx
  have h2 : DR E0 84 [kinkV] ⟨kinkH, 1⟩ (.ret (.int k 0)) st := ⟨300, h⟩
  have h3 := (DR.unique h1 h2).1
  simp only [Out.ret.injEq, Value.int.injEq] at h3
  exact h3.2
theorem ask_C : askD 0 xK sK 1 = 290 := by
  obtain ⟨k, st, h⟩ := seenI_some ask_circ
  have hx : CrossP [] none 0 xK sK := ⟨0, 0, fun h => by omega, fun i hi => by omega⟩
  have h1 := asked_ E0_OE (c := 0) (L := 1) hx
  have h2 : DR E0 84 [circV] ⟨[], 0⟩ (.ret (.int k 290)) st := ⟨300, h⟩
  have h3 := (DR.unique h1 h2).1
  simp only [Out.ret.injEq, Value.int.injEq] at h3
  exact h3.2
theorem mix_K : mixD 1 xK sK 0 = true := by
  have := ask_zero ask_K
  unfold mixD
  exact decide_eq_true this
theorem mix_C : mixD 0 xK sK 1 = false := by
  unfold mixD
  refine decide_eq_false fun h => ?_
  have := ask_C
  unfold askD at this
  rw [if_neg (by simp [h.1]), if_pos h.2] at this
  cases this
variable {E : Env} (hE : OE E)
include hE
theorem Kink_ {h : List O} : DR E 80 [] ⟨h, h.length⟩ (.ret (dV (some ⟨h.length + 1, 0, none⟩) 1 1 0)) ⟨h ++ [.cells [.slice (some ⟨h.length + 1, 0, none⟩) 1 1, .int .i64 0] 24 (some 0), .cells [.int .i64 0, .int .i64 0, .int .i64 1, .int .i64 1, .int .i64 1] 107 (some 0)], h.length⟩ := by
  refine hE.fn (body := rb80) rfl ?_
  unfold rb80
  simp [dV, List.append_assoc, wrN_at0, set_at0, rdN_at0, back, Out.scalar, scalar, flat1, flat]
theorem sane_ {h0 : List O} : DR E 15 [] ⟨h0, h0.length⟩ (.ret (.bool true)) ⟨h0, h0.length⟩ := by
  refine hE.fn (body := rb15) rfl ?_
  unfold rb15
  obtain ⟨h1, hh1⟩ : ∃ H, H = h0 ++ [O.cells [.slice (some ⟨h0.length + 1, 0, none⟩) 1 1, .int .i64 0] 24 (some 0), O.cells [.int .i64 0, .int .i64 0, .int .i64 1, .int .i64 1, .int .i64 1] 107 (some 0)] := ⟨_, rfl⟩
  have hk1 : h1[h0.length + 1]? = some (O.cells [.int .i64 0, .int .i64 0, .int .i64 1, .int .i64 1, .int .i64 1] 107 (some 0)) := by rw [hh1, app_at]; rfl
  have l1 : h1.length = h0.length + 2 := by rw [hh1]; simp
  have hki := Kink_ hE (h := h0)
  simp only [dV, ← hh1] at hki
  obtain ⟨h2, hh2⟩ : ∃ H, H = h1 ++ [O.cells [.slice (some ⟨h0.length + 1, 0, none⟩) 1 1, .int .i64 0] 24 (some 0), O.cells [.slice none 0 0, .int .i64 1] 24 (some 0)] := ⟨_, rfl⟩
  have hs12 : Sub h1 h2 := by rw [hh2]; exact (Sub.refl _).app _
  have hd1 : h2[h1.length]? = some (O.cells [.slice (some ⟨h0.length + 1, 0, none⟩) 1 1, .int .i64 0] 24 (some 0)) := by rw [hh2, app_at0]; rfl
  have hd2 : h2[h1.length + 1]? = some (O.cells [.slice none 0 0, .int .i64 1] 24 (some 0)) := by rw [hh2, app_at]; rfl
  have l2 : h2.length = h1.length + 2 := by rw [hh2]; simp
  have hk2 := hs12 _ _ hk1
  have hm1 : min h0.length h1.length = h0.length := by omega
  have hm2 : min h0.length (h1.length + 1) = h0.length := by omega
  simp [DC_of hki, joined_fl, wrN_at0, set_at0, wrN_at, set_at, List.append_assoc, hm1, hm2, ← hh2, rdN_def, hd1]
  have ou := Outside_ hE (c := 1) (L := 0) (kinkP hk2)
  simp only [dV] at ou
  refine ou.imp ?_
  rintro o ⟨h3, f3⟩ (⟨hne, _⟩ | ⟨_, fb, rfl, _, hf3, hs3, cs', _, _⟩)
  · exact absurd ask_K hne
  simp only at hf3 hs3
  obtain ⟨h4, hh4⟩ : ∃ H, H = h3 ++ [O.cells [.slice (some ⟨fb, 0, none⟩) 4 4] 29 (some 0)] := ⟨_, rfl⟩
  have hs34 : Sub h3 h4 := by rw [hh4]; exact (Sub.refl _).app _
  have hg : h4[h3.length]? = some (O.cells [.slice (some ⟨fb, 0, none⟩) 4 4] 29 (some 0)) := by rw [hh4, app_at0]; rfl
  have l3 := hs3.len
  have l4 := hs34.len
  have hm3 : min h0.length h3.length = h0.length := by omega
  have hs24 := hs3.trans hs34
  simp [joined_fl, hf3, wrN_at0, set_at0, ← hh4, hm3, rdN_def, hs24 _ _ hd1]
  have cu := Cusps_ hE (c := 1) (L := 0) (kinkP (hs24 _ _ hk2))
  simp only [dV] at cu
  refine cu.imp ?_
  rintro o ⟨h5, f5⟩ (⟨hne, _⟩ | ⟨_, xs, k, v, hO, rfl, hf5, hs5, hown⟩)
  · exact absurd ask_K hne
  simp only at hf5 hs5 hown
  have hG := good_of (ask_pos ask_K).1
  have h3c := kink_three xs hG
  obtain ⟨va, rfl⟩ : ∃ a, v = .slice a 3 3 := by
    rcases hown.2 with ⟨_, e⟩ | ⟨b, s, e, _⟩
    · rw [show 16 * 1 = 16 from rfl, h3c] at e; cases e
    · rw [show 16 * 1 = 16 from rfl, h3c] at e; exact ⟨_, e⟩
  have hs25 := hs24.trans hs5
  simp [joined_fl, hf5, rdN_def, hs25 _ _ hd2]
  have oc := Outside_ hE (h0 := h5) (a := none) (n := 0) (x := xK) (s := sK) (c := 0) (L := 1) ⟨0, 0, fun h => by omega, fun i hi => by omega⟩
  simp only [dV] at oc
  refine oc.imp ?_
  rintro o st' (⟨_, rfl, rfl⟩ | ⟨he, _⟩)
  rotate_left
  · rw [ask_C] at he; cases he
  obtain ⟨h6, hh6⟩ : ∃ H, H = h5 ++ [O.cells [.slice none 0 0] 29 (some 0)] := ⟨_, rfl⟩
  have hs56 : Sub h5 h6 := by rw [hh6]; exact (Sub.refl _).app _
  have h6a : h6[h5.length]? = some (O.cells [.slice none 0 0] 29 (some 0)) := by rw [hh6, app_at0]; rfl
  have l5 := hs5.len
  have hm5 : min h0.length h5.length = h0.length := by omega
  have hs26 := hs25.trans hs56
  simp [joined_fl, wrN_def, h6a, set_same h6a, ← hh6, hm5, rdN_def, hs26 _ _ hd1, ask_C]
  have ar := Arc_ hE (c := 1) (L := 0) (kinkP (hs26 _ _ hk2)) (arc := (0 : Int))
  simp only [dV] at ar
  refine ar.imp ?_
  rintro o ⟨h7, f7⟩ (⟨hne, _⟩ | ⟨_, hn, _⟩ | ⟨_, _, b, rfl, _, hf7, hs7, _⟩)
  · exact absurd ask_K hne
  · exact absurd (show (0 : Int) ≤ 0 ∧ (0 : Int) < 2 * ((1 : Nat) : Int) from ⟨by omega, by omega⟩) hn
  simp only at hf7 hs7
  have hs27 := hs26.trans hs7
  have hmx := Mixed_ hE (c := 1) (L := 0) (kinkP (hs27 _ _ hk2))
  have hmc := Mixed_ hE (h0 := h7) (a := none) (n := 0) (x := xK) (s := sK) (c := 0) (L := 1) ⟨0, 0, fun h => by omega, fun i hi => by omega⟩
  rw [mix_K] at hmx
  rw [mix_C] at hmc
  simp only [dV] at hmx hmc
  have hg7 := hs7 _ _ (hs56 _ _ (hs5 _ _ hg))
  simp [joined_fl, hf7, rd_def, rdN_def, hg7, hs27 _ _ hd1, hs27 _ _ hd2, DC_of hmx, DC_of hmc]
end Go.Proofs.Ytjlkndkedknocaa
