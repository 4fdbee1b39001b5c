/- Texts that were built one by one: Wb5, Wr9, Wr10, Wr11, Wr8, Wo0, Wo1, AiO, Wo2, Wc4, Wc5, Wc6, Wc7, Wc8, Wc9, Wd1, Wd2. -/
import Derived.Test.YtjlkndkedknocaaMg
import Derived.Test.YtjlkndkedknocaaMd
import Derived.Test.YtjlkndkedknocaaMe
import Derived.KernelRfl
import Derived.Test.YtjlkndkedknocaaMf
set_option linter.unusedSimpArgs false
set_option linter.unusedVariables false
namespace Go.Ai
def SmallL (ws : List Int) : Prop := ∀ y ∈ ws, -1000 ≤ y ∧ y ≤ 1000
theorem SmallL.nth {ws : List Int} (h : SmallL ws) (i : Nat) : -1000 ≤ nth ws i ∧ nth ws i ≤ 1000 := by
 by_cases hi : i < ws.length
 ·exact h _ (nth_mem hi)
 ·rw [nth_ge (by omega)]; omega
theorem SmallL.app {a b : List Int} (h : SmallL a) (k : SmallL b) : SmallL (a ++ b) := fun y hy => by
 rcases List.mem_append.1 hy with h1 | h1
 ·exact h y h1
 ·exact k y h1
theorem SmallL.rep {n : Nat} {m : Int} (h : -1000 ≤ m ∧ m ≤ 1000) : SmallL (List.replicate n m) := fun y hy => by
 rw [List.mem_replicate] at hy
 rw [hy.2]; exact h
theorem OwnT.ints {h : List O} {lo : Nat} {v : Value} {ws : List Int} {el : TypeId} (ho : OwnT h lo v ws.length (intsC ws) el 1) (hs : SmallL ws) (hl : ws.length < 2 ^ 62) : Ints h v ws := by
 have h64 : ∀ i, I64 (Ai.nth ws i) := fun i => by have := hs.nth i; constructor <;> omega
 rcases ho with ⟨rfl, h1, h2⟩ | ho
 ·have : ws = [] := List.length_eq_zero_iff.1 h1
  subst this
  exact ⟨_, 0, 0, 0, rfl, fun h => absurd h (by simp), fun i hi => absurd hi (by simp), h64, hl⟩
 ·rcases ho.2 with ⟨rfl, h1⟩ | ⟨b, s, rfl, h1, h2, _⟩
  ·have : ws = [] := List.length_eq_zero_iff.1 h1
   subst this
   exact Ints.nil
  ·exact ⟨_, b, 0, _, rfl, fun _ => rfl, fun i hi => by rw [rd_def, h2, Nat.zero_add]; exact intsC_get hi, h64, hl⟩
end Go.Ai
namespace Go.Proofs.Ytjlkndkedknocaa
open Go Go.Ai
attribute [local instance] Classical.propDecidable
theorem wordT_small {G : Dg} (hG : GoodG G) {a : Nat} (ha : a < 2 * G.n) : ∀ i, SmallL (wordT G a i) := by
 intro i
 induction i with
 | zero => intro y hy; simp [wordT] at hy
 | succ i ih =>
  refine ih.app fun y hy => ?_
  unfold wordP at hy
  split at hy
  ·simp at hy
   obtain ⟨t0, t1, t2, t3, _⟩ := hG.T _ ((nx_perm hG).itr_lt ha i)
   have hg := gen_le hG t2 (show 1 < 4 by omega)
   have hc := arC_le G
   have hz := hG.size
   have e : (finT G (itr (nx G) a i)).1 = G.T (itr (nx G) a i) 2 := rfl
   rw [e] at hy
   rcases hG.sign _ t2 with h | h <;> rw [h] at hy <;> omega
  ·simp at hy
noncomputable def lonS (G : Dg) (k : Int) : Int := ownT G k (fstA G k).toNat (perA G (fstA G k).toNat)
noncomputable def lonD (G : Dg) (k : Int) : List Int := if 0 ≤ fstA G k then wordT G (fstA G k).toNat (perA G (fstA G k).toNat) ++ List.replicate (lonS G k).toNat (-(merD G k)) ++ List.replicate (-(lonS G k)).toNat (merD G k) else []
def LonP (h0 : List O) (ws : List Int) (v : Value) (st' : St) : Prop := Sub h0 st'.h ∧ h0.length ≤ st'.fl ∧ Ints st'.h v ws
structure LwI (h0 h : List O) (lo p8 p11 : Nat) (sm : Int) (ov : Value) (ws : List Int) : Prop where
 sub : Sub h0 h
 b8 : AtB h p8 (.cells [ov] 34 (some 0))
 b11 : AtB h p11 (.cells [.int .i64 sm] 3 (some 0))
 own : OwnT h lo ov ws.length (intsC ws) 3 1
 small : SmallL ws
 lo_ : lo ≤ h.length
theorem LwI.add {h0 h : List O} {lo p8 p11 : Nat} {sm sm' m : Int} {ov : Value} {ws : List Int} (hI : LwI h0 h lo p8 p11 sm ov ws) (hm : -1000 ≤ m ∧ m ≤ 1000) (l0 : h0.length ≤ p8) (l1 : h0.length ≤ p11) (l8 : p8 < lo) (l11 : p11 < lo) (hne : p8 ≠ p11) (hw : ws.length ≤ 10000) :
  ∃ b' H4, appendV 3 1 8 ov (.slice (some ⟨h.length, 0, none⟩) 1 1) ⟨h ++ [.cells [.int .i64 m] 3 (some 0)], h0.length⟩ = some (.slice (some ⟨b', 0, none⟩) (ws.length + 1) (ws.length + 1), ⟨H4, h0.length⟩) ∧
   H4[p8]? = some (.cells [ov] 34 (some 0)) ∧ H4[p11]? = some (.cells [.int .i64 sm] 3 (some 0)) ∧
   LwI h0 ((H4.set p8 (.cells [.slice (some ⟨b', 0, none⟩) (ws.length + 1) (ws.length + 1)] 34 (some 0))).set p11 (.cells [.int .i64 sm'] 3 (some 0))) lo p8 p11 sm' (.slice (some ⟨b', 0, none⟩) (ws.length + 1) (ws.length + 1)) (ws ++ [m]) := by
 have hread : readSlice (h ++ [.cells [.int .i64 m] 3 (some 0)]) 1 1 (some ⟨h.length, 0, none⟩) = some [.int .i64 m] := by simp [readSlice, rdN_at0]
 have hlo := hI.lo_
 obtain ⟨b', H4, f4, happ, hb', hown, hf1, hf2, hL4, K4⟩ := append_T (fl := h0.length) (c := 1) (bytes := 8) (hI.own.keep (h' := h ++ [.cells [.int .i64 m] 3 (some 0)]) fun b s _ _ e => app_of e _) hread (by simp) (by simp) (by simp; omega) (by simp only [roomMax]; omega) (by omega)
 obtain rfl : f4 = h0.length := by omega
 have k8 := K4 _ _ (app_of hI.b8 _) (.inl l8)
 have k11 := K4 _ _ (app_of hI.b11 _) (.inl l11)
 refine ⟨b', H4, happ, k8, k11, fun b o hb => ?_, set_ne (set_self k8) hne, set_self (set_ne k11 (Ne.symm hne)), ?_, hI.small.app (fun y hy => by simp at hy; rw [hy]; exact hm), by simp at hL4 ⊢; omega⟩
 ·have := (List.getElem?_eq_some_iff.1 hb).1
  exact set_ne (set_ne (K4 _ _ (app_of (hI.sub b o hb) _) (.inl (by omega))) (by omega)) (by omega)
 ·have : OwnT H4 lo (.slice (some ⟨b', 0, none⟩) (ws.length + 1) (ws.length + 1)) (ws ++ [m]).length (intsC (ws ++ [m])) 3 1 := by simpa [intsC] using hown
  exact this.keep fun b s e1 e2 e3 => set_ne (set_ne e3 (by omega)) (by omega)
variable {E : Env} (hE : OE E)
include hE
theorem longitude_ (hWk : ∀ (h : List O) (pl n : Nat) (x : Nat → Nat → Int) (s : Nat → Int) (L i : Int), LnkP h pl n x s L → Snd n x s L → DR E 148 [.pointer (some ⟨pl, 0, none⟩), .int .i64 i] ⟨h, h.length⟩ (.ret (walkV h)) ⟨walkM h pl i (dgOf n x s L), h.length⟩)
  {h0 : List O} {a : Option Addr} {n c : Nat} {x : Nat → Nat → Int} {s : Nat → Int} {L : Int} (hx : CrossP h0 a n x s) (k : Int) :
  DC E 70 [dV a n c L, .int .i64 k] ⟨h0, h0.length⟩ fun o st' => (kindD n x s L ≠ 0 ∧ o = .ret (.tuple #[.slice none 0 0, .int .i64 (kindD n x s L)]) ∧ st' = ⟨h0, h0.length⟩) ∨
   (kindD n x s L = 0 ∧ ¬ (0 ≤ k ∧ k < cpK (dgOf n x s L) + L) ∧ o = .ret (.tuple #[.slice none 0 0, .int .i64 1]) ∧ st' = ⟨h0, h0.length⟩) ∨
   (kindD n x s L = 0 ∧ (0 ≤ k ∧ k < cpK (dgOf n x s L) + L) ∧ ∃ v, o = .ret (.tuple #[v, .int .i64 0]) ∧ LonP h0 (lonD (dgOf n x s L) k) v st') := by
 refine hE.fnC (body := rb70) rfl ?_
 unfold rb70
 have hx1 : CrossP (h0 ++ [O.cells [.slice a n c, .int .i64 L] 24 (some 0), O.cells [.int .i64 k] 3 (some 0)]) a n x s := hx.ext (Ext.snoc _ _)
 have h1 := check_ hE (c := c) (L := L) hx1
 simp [dV] at h1
 by_cases hk : kindD n x s L = 0
 ·have h2 := newLinkC_ hE (c := c) hx1 hk
  simp [dV] at h2
  have hS := (kind_zero hk).1
  simp [dV, rdN_at0, joined_fl, DC_of h1, hk, List.append_assoc]
  refine h2.imp ?_
  rintro o ⟨h3, f3⟩ ⟨pl, rfl, hp, hf, hs, hl⟩
  simp only at hf hs hl
  have hs0 : Sub h0 h3 := ((Sub.refl h0).app _).trans hs
  have hd0 : h3[h0.length]? = some (O.cells [.slice a n c, .int .i64 L] 24 (some 0)) := hs _ _ (by rw [app_at0]; rfl)
  have hd1 : h3[h0.length + 1]? = some (O.cells [.int .i64 k] 3 (some 0)) := hs _ _ (by rw [app_at]; rfl)
  have hlen := hs.len
  simp at hlen
  have hl' := hl
  obtain ⟨uv, xa', xc', ab, cb, mb, z1, z2, z3, z4, z5, hO, hk'⟩ := hl'
  unfold linkC at z1
  have hd0' : ∀ l, (h3 ++ l)[h0.length]? = _ := fun l => app_of hd0 l
  have hd1' : ∀ l, (h3 ++ l)[h0.length + 1]? = _ := fun l => app_of hd1 l
  have z1' : ∀ l, (h3 ++ l)[pl]? = _ := fun l => app_of z1 l
  have hmin : min h0.length h3.length = h0.length := by omega
  by_cases c1 : 0 ≤ k ∧ k < cpK (dgOf n x s L) + L
  ·have c1' : ¬ k < 0 := by omega
   have c2' : ¬ (cpK (dgOf n x s L) : Int) + L ≤ k := by omega
   have b2 : one1 emptyS = true := rfl
   have b3 : emptyS.cells = #[emptyS] := rfl
   have hmin2 : min h0.length (h3.length + 1) = h0.length := by omega
   have hmin3 : min h0.length (h3.length + 2) = h0.length := by omega
   obtain ⟨G, hGe⟩ : ∃ G, G = dgOf n x s L := ⟨_, rfl⟩
   have hG : GoodG G := by rw [hGe]; exact good_of hS
   have hGn : G.n = n := by rw [hGe]; rfl
   have hfi := first_ hE (hl.sub ((Sub.refl h3).app [O.cells [.pointer (some ⟨pl, 0, none⟩)] 155 (some 0), .cells [emptyS] 34 (some 0)])) hS.size hS.loops c1
   simp at hfi
   rw [← hGe] at hfi ⊢
   have hfl := fstA_lt (G := G) (k := k)
   rw [hGn] at hfl
   simp [joined_fl, hf, wrN_at0, set_at0, hmin, rd_def, rd_at0, hd0', hd1', app_at0, z1', c1, c1', c2', wrN_at, set_at, b2, b3, hmin2, app_at, DC_of hfi, List.append_assoc]
   by_cases h0' : 0 ≤ fstA G k
   ·have h0'' : ¬ fstA G k < 0 := by omega
    obtain ⟨a0, ha0⟩ : ∃ a0 : Nat, fstA G k = a0 := ⟨(fstA G k).toNat, by omega⟩
    have ha0' : (fstA G k).toNat = a0 := by omega
    have ha0n : a0 < 2 * n := by omega
    have ha0z : ¬ ((a0 : Int) < 0) := by omega
    obtain ⟨H, hH⟩ : ∃ H, H = h3 ++ [O.cells [.pointer (some ⟨pl, 0, none⟩)] 155 (some 0), .cells [emptyS] 34 (some 0), .cells [.int .i64 0] 3 (some 0)] := ⟨_, rfl⟩
    have hlH : H.length = h3.length + 3 := by rw [hH]; simp
    have hsH : Sub h3 H := by rw [hH]; exact (Sub.refl _).app _
    have hwk := hWk H pl n x s L a0 (hl.sub hsH) hS
    have q7 : H[h3.length]? = some (.cells [.pointer (some ⟨pl, 0, none⟩)] 155 (some 0)) := by rw [hH, app_at0]; rfl
    have q8 : H[h3.length + 1]? = some (.cells [emptyS] 34 (some 0)) := by rw [hH, app_at]; rfl
    have q11 : H[h3.length + 2]? = some (.cells [.int .i64 0] 3 (some 0)) := by rw [hH, app_at]; rfl
    have hwr : wrN H (h3.length + 2) 0 [Value.int .i64 0] = some H := by
     rw [wrN_def, q11]
     simp [set_same q11]
    have hrd7 : rd H h3.length 0 = some (.pointer (some ⟨pl, 0, none⟩)) := by rw [rd_def, q7]; rfl
    simp [h0', h0'', ha0z, hwr, hrd7, wrN_at, set_at, app_at, app_at0, hmin3, ha0, ← hH, DC_of hwk, q7]
    obtain ⟨M, hM⟩ : ∃ M, M = walkM H pl a0 (dgOf n x s L) := ⟨_, rfl⟩
    have hsM : Sub H M := by rw [hM]; unfold walkM; rw [List.append_assoc]; exact (Sub.refl _).app _
    have hlM : H.length + 4 < M.length := by rw [hM]; simp [walkM]; omega
    have m0 : M[H.length]? = some (.cells [.pointer (some ⟨pl, 0, none⟩)] 155 (some 0)) := by rw [hM]; unfold walkM; rw [List.append_assoc, app_at0]; rfl
    have m1 : M[H.length + 1]? = some (.cells [.int .i64 a0] 3 (some 0)) := by rw [hM]; unfold walkM; rw [List.append_assoc, app_at]; rfl
    have m2 : M[H.length + 2]? = some (.cells (cellsL (finL (dgOf n x s L))) 72 (some 0)) := by rw [hM]; unfold walkM; rw [List.append_assoc, app_at]; rfl
    have m3 : M[H.length + 3]? = some (.cells [.slice (some ⟨H.length + 2, 0, none⟩) (2 * n) (2 * n)] 215 (some 0)) := by rw [hM]; unfold walkM; rw [List.append_assoc, app_at]; rfl
    rw [← hM]
    refine rangeL_ hE (hL := h3) (pl := pl) (n := n) (dB := h0.length) (pc := h0.length + 1) (p7 := h3.length) (p8 := h3.length + 1) (p11 := h3.length + 2) (pf := H.length + 1) (pe := H.length + 3) (pL := H.length) (eb := H.length + 2) (a0 := a0) (comp := k) (ov := emptyS)
     (by simp [walkV]) (by simp) (by simp) (by simp) (by simp) (by simp) hl hS (hsH.trans hsM) hd0 (hx1.sub hs) hd1 (hsM _ _ q7) (hsM _ _ q8) (hsM _ _ q11) ha0n m1 m3 m2 m0 (by omega) (by omega) (by omega) (by omega) (by omega) (by omega) (by omega) ?_
    intro h' ov' hkeep r8 r11 hown
    rw [← hGe] at hown r11
    have hS0 : lonS G k = ownT G k a0 (perA G a0) := by unfold lonS; rw [ha0']
    have haG : a0 < 2 * G.n := by rw [hGn]; exact ha0n
    have hmer : merD G k = arN G a0 + 1 := by unfold merD; rw [if_pos h0', ha0']
    have hsz := hS.size
    have hml := arN_lt haG
    have hac := arC_le G
    rw [hGn] at hac
    have hper := (perA_spec hG haG).1.2.2
    rw [hGn] at hper
    have hSb := ownT_le hG (k := k) haG (perA G a0)
    rw [← hS0] at hSb r11
    have hmb : -1000 ≤ merD G k ∧ merD G k ≤ 1000 := by rw [hmer]; omega
    obtain ⟨m, hme⟩ : ∃ m, m = merD G k := ⟨_, rfl⟩
    obtain ⟨S, hSe⟩ : ∃ S, S = lonS G k := ⟨_, rfl⟩
    rw [← hSe] at hSb r11
    rw [← hme] at hmb ⊢
    have hsub0 : Sub h0 h' := fun b o hb => by
     have := (List.getElem?_eq_some_iff.1 hb).1
     exact hkeep b o (hsM _ _ (hsH _ _ (hs0 b o hb))) (by omega) (by omega)
    have hwl := wordT_len G a0 (perA G a0)
    obtain ⟨W, hW⟩ : ∃ W, W = wordT G a0 (perA G a0) := ⟨_, rfl⟩
    have hWs : SmallL W := by rw [hW]; exact wordT_small hG haG _
    rw [← hW] at hown hwl
    have hlon : lonD G k = W ++ List.replicate S.toNat (-m) ++ List.replicate (-S).toNat m := by
     unfold lonD; rw [if_pos h0', ha0', ← hW, ← hSe, ← hme]
    have hMl : M.length ≤ h'.length := by
     have hk2 : Sub (M.take (h3.length + 1)) h' := fun b o hb => by
      have hbl := (List.getElem?_eq_some_iff.1 hb).1
      rw [List.getElem?_take] at hb
      split at hb
      ·exact hkeep b o hb (by omega) (by omega)
      ·cases hb
     apply Classical.byContradiction
     intro hcon
     have hlast : M[M.length - 1]? = some M[M.length - 1] := List.getElem?_eq_getElem (by omega)
     have := (List.getElem?_eq_some_iff.1 (hkeep _ _ hlast (by omega) (by omega))).1
     omega
    have hI0 : LwI h0 h' M.length (h3.length + 1) (h3.length + 2) S ov' W := ⟨hsub0, r8, r11, hown, hWs, hMl⟩
    have l8 : h3.length + 1 < M.length := by omega
    have l11 : h3.length + 2 < M.length := by omega
    have hmn1 : min h0.length (h3.length + 1) = h0.length := by omega
    have hmn2 : min h0.length (h3.length + 2) = h0.length := by omega
    simp
    refine DW_loop (fun kk fr st => ∃ (sm : Int) (h : List O) (ov : Value) (ws : List Int), kk = sm.toNat ∧ st = ⟨h, h0.length⟩ ∧ LwI h0 h M.length (h3.length + 1) (h3.length + 2) sm ov ws ∧ sm ≤ 400 ∧ (S < 0 → sm = S) ∧ (0 ≤ S → 0 ≤ sm) ∧ ws.length + sm.toNat ≤ 1000 ∧ ws ++ List.replicate sm.toNat (-m) = W ++ List.replicate S.toNat (-m) ∧
     get fr 8 = .pointer (some ⟨h3.length + 1, 0, none⟩) ∧ get fr 10 = .int .i64 m ∧ get fr 11 = .pointer (some ⟨h3.length + 2, 0, none⟩)) ?_ (k := S.toNat) ?_
    ·rintro kk fr st ⟨sm, h, ov, ws, rfl, rfl, hI, hs4, hs1, hs2, hwsl, heq, g8, g10, g11⟩
     have r8 := hI.b8
     have r11 := hI.b11
     unfold AtB at r8 r11
     by_cases hpos : 0 < sm
     ·have hwn : IntKind.i64.wrap (-m) = -m := by rw [w64_id] <;> omega
      have hws : IntKind.i64.wrap (sm - 1) = sm - 1 := by rw [w64_id] <;> omega
      obtain ⟨b', H4, happ, k8, k11, hI4⟩ := hI.add (m := -m) (sm' := sm - 1) (by omega) (by omega) (by omega) l8 l11 (by omega) (by omega)
      have k11' : ∀ o, (H4.set (h3.length + 1) o)[h3.length + 2]? = some (.cells [.int .i64 sm] 3 (some 0)) := fun o => set_ne k11 (by omega)
      simp [g8, g10, g11, rd_def, r8, r11, hpos, hwn, happ, wrN_def, k8, k11', hws, hmn1, hmn2, -List.length_append]
      refine ⟨(sm - 1).toNat, by omega, sm - 1, rfl, _, ws ++ [-m], hI4, by omega, by omega, by omega, by simp; omega, ?_⟩
      rw [← heq, List.append_assoc]
      congr 1
      rw [show sm.toNat = (sm - 1).toNat + 1 by omega]
      rfl
     ·simp [g8, g10, g11, rd_def, r8, r11, hpos]
      have hsz0 : sm.toNat = 0 := by omega
      rw [hsz0] at heq
      simp at heq
      refine DW_loop (fun kk fr st => ∃ (sm : Int) (h : List O) (ov : Value) (ws : List Int), kk = (-sm).toNat ∧ st = ⟨h, h0.length⟩ ∧ LwI h0 h M.length (h3.length + 1) (h3.length + 2) sm ov ws ∧ -400 ≤ sm ∧ sm ≤ 0 ∧ ws.length + (-sm).toNat ≤ 2000 ∧ ws ++ List.replicate (-sm).toNat m = W ++ List.replicate S.toNat (-m) ++ List.replicate (-S).toNat m ∧
       get fr 8 = .pointer (some ⟨h3.length + 1, 0, none⟩) ∧ get fr 10 = .int .i64 m ∧ get fr 11 = .pointer (some ⟨h3.length + 2, 0, none⟩)) ?_ (k := (-sm).toNat) ?_
      ·clear hI hs4 hs1 hs2 hwsl heq g8 g10 g11 r8 r11 hpos hsz0
       clear sm h ov ws
       rintro kk fr st ⟨sm, h, ov, ws, rfl, rfl, hI, hs4, hs1, hwsl, heq, g8, g10, g11⟩
       have r8 := hI.b8
       have r11 := hI.b11
       unfold AtB at r8 r11
       by_cases hneg : sm < 0
       ·have hws : IntKind.i64.wrap (sm + 1) = sm + 1 := by rw [w64_id] <;> omega
        obtain ⟨b', H4, happ, k8, k11, hI4⟩ := hI.add (m := m) (sm' := sm + 1) (by omega) (by omega) (by omega) l8 l11 (by omega) (by omega)
        have k11' : ∀ o, (H4.set (h3.length + 1) o)[h3.length + 2]? = some (.cells [.int .i64 sm] 3 (some 0)) := fun o => set_ne k11 (by omega)
        simp [g8, g10, g11, rd_def, r8, r11, hneg, happ, wrN_def, k8, k11', hws, hmn1, hmn2, -List.length_append]
        refine ⟨(-(sm + 1)).toNat, by omega, sm + 1, rfl, _, ws ++ [m], hI4, by omega, by omega, by simp; omega, ?_⟩
        rw [← List.append_assoc, ← heq, List.append_assoc]
        congr 1
        rw [show (-sm).toNat = (-(sm + 1)).toNat + 1 by omega]
        rfl
       ·have hsz0 : (-sm).toNat = 0 := by omega
        rw [hsz0] at heq
        simp at heq
        simp [g8, g10, g11, rd_def, r8, r11, hneg, endK_ret]
        unfold pairQ back
        rw [hlon, List.append_assoc, ← heq]
        have hints := hI.own.ints hI.small (by omega)
        split
        ·rename_i hc
         have hflv : flat ov = true := by
          obtain ⟨va, hva, _⟩ := hI.own.look
          rw [hva] at hc ⊢
          simp [Out.scalar, scalar, flat1] at hc
          first | exact hc.1 | exact hc
         exact .inr ⟨by rw [hGe]; exact c1.2, ov, rfl, Sub.refl _, Nat.le_refl _, hints.flat hflv⟩
        ·exact .inr ⟨by rw [hGe]; exact c1.2, ov, rfl, hI.sub, Nat.le_refl _, hints⟩
      ·refine ⟨sm, h, ov, ws, rfl, rfl, hI, by omega, by omega, by omega, ?_, by simp [g8, g10, g11]⟩
       rw [heq]
       congr 2
       omega
    ·exact ⟨S, h', ov', W, rfl, rfl, hI0, by omega, fun _ => rfl, fun h => h, by omega, rfl, by simp [hme]⟩
   ·have hf1 : fstA G k < 0 := by omega
    have hln : lonD G k = [] := if_neg h0'
    simp [h0', hf1, hk, rd_at, endK_ret, rdO, app_at]
    have hfe : (Out.ret (.tuple #[emptyS, .int .i64 0])).scalar = true := rfl
    unfold pairQ
    rw [back_scalar hfe (Nat.le_refl _), hln]
    exact .inr ⟨by rw [hGe]; exact c1.2, emptyS, rfl, Sub.refl _, Nat.le_refl _, _, 0, 0, 0, rfl, fun h => absurd h (by simp), fun i hi => absurd hi (by simp), fun i => by simp [nth, I64], by simp⟩
  ·by_cases d1 : 0 ≤ k
   ·have d1' : ¬ k < 0 := by omega
    have d2' : (cpK (dgOf n x s L) : Int) + L ≤ k := by omega
    have c1' : ¬ (k < cpK (dgOf n x s L) + L) := by omega
    simp [joined_fl, hf, wrN_at0, set_at0, hmin, rd_def, rd_at0, hd0', hd1', app_at0, z1', d1, d1', d2', c1', endK_ret, back_scalar, Out.scalar, scalar, flat1, flat]
   ·have d1' : k < 0 := by omega
    simp [joined_fl, hf, wrN_at0, set_at0, hmin, rd_def, rd_at0, hd0', hd1', app_at0, z1', d1, d1', endK_ret, back_scalar, Out.scalar, scalar, flat1, flat]
 ·simp [dV, rdN_at0, joined_fl, DC_of h1, hk, endK_ret, back_scalar, Out.scalar, scalar, flat1, flat]
end Go.Proofs.Ytjlkndkedknocaa
namespace Go.Proofs.Ytjlkndkedknocaa
open Go Go.Ai
attribute [local instance] Classical.propDecidable
structure LqI (h : List O) (lo : Nat) (ov : Value) (ws : List Int) : Prop where
 own : OwnT h lo ov ws.length (intsC ws) 3 1
 small : SmallL ws
 lo_ : lo ≤ h.length
theorem LqI.app {h : List O} {lo : Nat} {ov : Value} {ws : List Int} (hI : LqI h lo ov ws) (l : List O) : LqI (h ++ l) lo ov ws :=
 ⟨hI.own.keep fun b s _ _ e => app_of e _, hI.small, by have := hI.lo_; simp; omega⟩
theorem LqI.add {h : List O} {lo fl : Nat} {m : Int} {ov : Value} {ws : List Int} (hI : LqI h lo ov ws) (hm : -1000 ≤ m ∧ m ≤ 1000) (hfl : fl ≤ lo) (hw : ws.length ≤ 10000) :
  ∃ b' H4, appendV 3 1 8 ov (.slice (some ⟨h.length, 0, none⟩) 1 1) ⟨h ++ [.cells [.int .i64 m] 3 (some 0)], fl⟩ = some (.slice (some ⟨b', 0, none⟩) (ws.length + 1) (ws.length + 1), ⟨H4, fl⟩) ∧
   (∀ (b : Nat) (o : O), (b < lo ∨ ∀ (cs : List Value) (s : Option Nat), o ≠ .cells cs 3 s) → h[b]? = some o → H4[b]? = some o) ∧ LqI H4 lo (.slice (some ⟨b', 0, none⟩) (ws.length + 1) (ws.length + 1)) (ws ++ [m]) := by
 have hread : readSlice (h ++ [.cells [.int .i64 m] 3 (some 0)]) 1 1 (some ⟨h.length, 0, none⟩) = some [.int .i64 m] := by simp [readSlice, rdN_at0]
 have hlo := hI.lo_
 obtain ⟨b', H4, f4, happ, hb', hown, hf1, hf2, hL4, K4⟩ := append_T (fl := fl) (c := 1) (bytes := 8) (hI.own.keep (h' := h ++ [.cells [.int .i64 m] 3 (some 0)]) fun b s _ _ e => app_of e _) hread (by simp) (by simp) (by simp; omega) (by simp only [roomMax]; omega) (by omega)
 obtain rfl : f4 = fl := by omega
 refine ⟨b', H4, happ, fun b o hb ho => K4 _ _ (app_of ho _) hb, ?_, hI.small.app (fun y hy => by simp at hy; rw [hy]; exact hm), by simp at hL4; omega⟩
 simpa [intsC] using hown
end Go.Proofs.Ytjlkndkedknocaa
namespace Go.Proofs.Ytjlkndkedknocaa
open Go Go.Ai
attribute [local instance] Classical.propDecidable
def LonR (h0 : List O) (ws : List Int) (o : Out) (st' : St) : Prop := ∃ v, o = .ret (.tuple #[v, .int .i64 0]) ∧ LonP h0 ws v st'
variable {E : Env} (hE : OE E)
include hE
theorem longR1_ {h0 : List O} {a : Option Addr} {n c : Nat} {x : Nat → Nat → Int} {s : Nat → Int} {L : Int} (hx : CrossP h0 a n x s) (k : Int) (hk : kindD n x s L = 0) (hin : 0 ≤ k ∧ k < cpK (dgOf n x s L) + L) :
  DC E 74 [dV a n c L, .int .i64 k] ⟨h0, h0.length⟩ (LonR h0 (lonD (dgOf n x s L) k)) := by
 refine hE.fnC (body := rb74) rfl ?_
 unfold rb74
 obtain ⟨h1, hh1⟩ : ∃ H, H = h0 ++ [O.cells [.slice a n c, .int .i64 L] 24 (some 0)] := ⟨_, rfl⟩
 have l1 : h1.length = h0.length + 1 := by rw [hh1]; simp
 have s1 : Sub h0 h1 := by rw [hh1]; exact (Sub.refl _).app _
 have b0 : h1[h0.length]? = some (O.cells [.slice a n c, .int .i64 L] 24 (some 0)) := by rw [hh1, app_at0]; rfl
 have hx1 := hx.sub s1
 have hm := meridianR_ hE (c := c) (L := L) hx1 k
 have hj1 : joined ⟨h1, h0.length⟩ ⟨h1, h1.length⟩ = ⟨h1, h0.length⟩ := joined_mk _ _
 rw [if_neg (by simp [hk]), if_pos hin] at hm
 have hS := (kind_zero hk).1
 have har := archesR_ hE (c := c) hx1 hS
 obtain ⟨G, hGe⟩ : ∃ G, G = dgOf n x s L := ⟨_, rfl⟩
 have hG : GoodG G := by rw [hGe]; exact good_of hS
 have hGn : G.n = n := by rw [hGe]; rfl
 have hGL : G.L = L := by rw [hGe]; rfl
 have hGs : G.s = s := by rw [hGe]; rfl
 have hsz := hG.size
 rw [← hGe] at hm har hin ⊢
 simp only [dV] at hm har ⊢
 obtain ⟨ws0, hws0⟩ : ∃ ws0, ws0 = lonD G k := ⟨_, rfl⟩
 rw [← hws0]
 simp [← hh1, rdN_def, b0, DC_of hm, hj1]
 refine har.imp ?_
 rintro o ⟨h2, f2⟩ ⟨b, rfl, s2, hf2, hb, hof⟩
 simp only at s2 hf2 hof
 have b2 := s2 _ _ b0
 have hof2 := of_ hE (c := c) (L := L) (hx1.sub s2) hS
 rw [← hGe] at hof2
 simp only [dV] at hof2
 simp [joined_fl, hf2, rdN_def, b2]
 refine hof2.imp ?_
 rintro o ⟨h3, f3⟩ ⟨xs, k2, rfl, hf3, s3, hxs, ho, _⟩
 simp only at hf3 s3 hxs
 unfold AtB at hxs
 obtain ⟨hxe, _⟩ := cp_eq (G := G) (by rw [hGn]; exact ho)
 have hxl := ho.len
 clear ho
 have hof3 := s3 _ _ hof
 have b3 := s3 _ _ b2
 have hal : (arL G).length = 2 * n := by unfold arL; rw [tabL_length, hGn]
 obtain ⟨P, hP⟩ : ∃ P, P = h2.length + 1 := ⟨_, rfl⟩
 rw [← hP] at hxs
 simp [joined_fl, hf3]
 rw [← hP]
 obtain ⟨N, hN⟩ : ∃ N, N = 2 * n := ⟨_, rfl⟩
 rw [← hN]
 obtain ⟨mm, hmm⟩ : ∃ mm, mm = merD G k := ⟨_, rfl⟩
 rw [← hmm]
 have hfst : fstA G k = firstI (fun j => decide (nth xs j = k)) N := by unfold fstA; rw [hxe, hGn, hN]
 refine DW_loop (fun kk fr st => ∃ (i : Nat), i + kk = N ∧ st = ⟨h3, h0.length⟩ ∧ (∀ j, j < i → nth xs j ≠ k) ∧ get fr 1 = .int .i64 k ∧ get fr 2 = .pointer (some ⟨h0.length, 0, none⟩) ∧ get fr 6 = .int .i64 mm ∧ get fr 8 = .slice (some ⟨b, 0, none⟩) N N ∧ get fr 10 = .slice (some ⟨P, 0, none⟩) N N ∧ get fr 11 = .int .i64 i) ?_ (k := N) ?_
 ·rintro kk fr st ⟨i, hik, rfl, hd, g1, g2, g6, g8, g10, g11⟩
  by_cases hi : i < N
  ·have hw : IntKind.i64.wrap ((i : Int) + 1) = (i : Int) + 1 := by rw [w64_id] <;> omega
   have gx : (intsC xs)[i]? = some (.int .i64 (nth xs i)) := intsC_get (by omega)
   by_cases he : nth xs i = k
   ·have hfi : fstA G k = i := by rw [hfst]; exact firstI_found hi (by simp [he]) (fun j hj => by simpa using hd j hj)
    have hne : ¬ (i : Int) = N := by omega
    have hneN : ¬ i = N := by omega
    simp [g1, g2, g6, g8, g10, g11, hi, rd_def, ↓hxs, gx, he, hne, hneN]
    have hiG : i < 2 * G.n := by omega
    obtain ⟨⟨p1, p2, p3⟩, p4⟩ := perA_spec hG hiG
    obtain ⟨pr, hpr⟩ : ∃ pr, pr = perA G i := ⟨_, rfl⟩
    rw [← hpr] at p1 p2 p3 p4
    have hs3 : Sub h0 h3 := (s1.trans s2).trans s3
    have l3 := hs3.len
    refine DW.imp (Q := fun e fr st => ∃ (h : List O) (ov : Value), e = .exit 2 ∧ st = ⟨h, h0.length⟩ ∧ Sub h3 h ∧ LqI h h3.length ov (wordT G i pr) ∧ get fr 6 = .int .i64 mm ∧ get fr 12 = ov ∧ get fr 13 = .int .i64 (ownT G k i pr)) ?_ ?_
    rotate_left
    ·rintro e fr st ⟨h, ov, rfl, rfl, hsub, hI, g6, g12, g13⟩
     simp
     have hmmv : mm = arN G i + 1 := by
      rw [hmm]
      unfold merD
      rw [hfi, if_pos (by omega)]
      rfl
     have hai := arN_lt (G := G) (a := i) hiG
     have hac := arC_le G
     have hwl := wordT_len G i pr
     have how := ownT_le hG (k := k) hiG pr
     obtain ⟨ow, how0⟩ : ∃ ow, ow = ownT G k i pr := ⟨_, rfl⟩
     rw [← how0] at how g13
     have hlon : ws0 = wordT G i pr ++ List.replicate ow.toNat (-mm) ++ List.replicate (-ow).toNat mm := by
      rw [hws0, how0, hmm]
      unfold lonD lonS
      rw [hfi, if_pos (by omega), hpr]
      rfl
     have hwm : IntKind.i64.wrap (-mm) = -mm := by rw [w64_id] <;> omega
     refine DW_loop (fun kk2 fr st => ∃ (j : Nat) (h : List O) (ov : Value), j + kk2 = ow.toNat ∧ st = ⟨h, h0.length⟩ ∧ Sub h3 h ∧ LqI h h3.length ov (wordT G i pr ++ List.replicate j (-mm)) ∧ get fr 6 = .int .i64 mm ∧ get fr 12 = ov ∧ get fr 13 = .int .i64 (ow - j)) ?_ (k := ow.toNat) ?_
     ·clear g6 g12 g13 hI hsub
      rintro kk2 fr st ⟨j, h, ov, hjk, rfl, hsub, hI, g6, g12, g13⟩
      by_cases hj : 0 < ow - j
      ·obtain ⟨b', H4, happ, K4, hI4⟩ := hI.add (m := -mm) (fl := h0.length) (by omega) (by omega) (by simp; omega)
       have hws : IntKind.i64.wrap (ow - j - 1) = ow - ((j + 1 : Nat) : Int) := by rw [w64_id] <;> omega
       have hj' : (j : Int) < ow := by omega
       simp [g6, g12, g13, hj, hj', hwm, happ, hws]
       have hs4 : Sub h3 H4 := fun b o hb => K4 b o (.inl (List.getElem?_eq_some_iff.1 hb).1) (hsub b o hb)
       have el : (wordT G i pr ++ List.replicate j (-mm)).length + 1 = (wordT G i pr).length + j + 1 := by simp
       rw [el, List.append_assoc, ← List.replicate_succ'] at hI4
       exact ⟨kk2 - 1, by omega, j + 1, by omega, hs4, _, hI4, rfl, by omega⟩
      ·have hj' : ¬ (j : Int) < ow := by omega
       have hjn : j = ow.toNat := by omega
       have hg13 : ow - (j : Int) = -((-ow).toNat : Int) := by omega
       simp [g6, g12, g13, hj, hj']
       refine DW_loop (fun kk3 fr st => ∃ (j2 : Nat) (h : List O) (ov : Value), j2 + kk3 = (-ow).toNat ∧ st = ⟨h, h0.length⟩ ∧ Sub h3 h ∧ LqI h h3.length ov (wordT G i pr ++ List.replicate j (-mm) ++ List.replicate j2 mm) ∧ get fr 6 = .int .i64 mm ∧ get fr 12 = ov ∧ get fr 13 = .int .i64 (j2 - (-ow).toNat)) ?_ (k := (-ow).toNat) ?_
       ·clear g6 g12 g13 hI hsub
        rintro kk3 fr st ⟨j2, h, ov, hjk2, rfl, hsub, hI, g6, g12, g13⟩
        by_cases hj2 : j2 < (-ow).toNat
        ·obtain ⟨b', H4, happ, K4, hI4⟩ := hI.add (m := mm) (fl := h0.length) (by omega) (by omega) (by simp; omega)
         have hws : IntKind.i64.wrap ((j2 : Int) - ((-ow).toNat : Int) + 1) = ((j2 + 1 : Nat) : Int) - ((-ow).toNat : Int) := by rw [w64_id] <;> omega
         have hlt2 : (j2 : Int) - ((-ow).toNat : Int) < 0 := by omega
         obtain ⟨nn, hnn⟩ : ∃ nn, nn = (-ow).toNat := ⟨_, rfl⟩
         rw [← hnn] at g13 hws hlt2 hjk2 hj2 ⊢
         simp [g6, g12, g13, hlt2, happ, hws]
         have hs4 : Sub h3 H4 := fun b o hb => K4 b o (.inl (List.getElem?_eq_some_iff.1 hb).1) (hsub b o hb)
         have el : (wordT G i pr ++ List.replicate j (-mm) ++ List.replicate j2 mm).length + 1 = (wordT G i pr).length + (j + j2) + 1 := by simp
         rw [el, List.append_assoc (wordT G i pr ++ List.replicate j (-mm)), ← List.replicate_succ', List.append_assoc] at hI4
         exact ⟨kk3 - 1, by omega, j2 + 1, by omega, hs4, _, hI4, rfl, by omega⟩
        ·have hj2n : j2 = (-ow).toNat := by omega
         have hge : ¬ (j2 : Int) - ((-ow).toNat : Int) < 0 := by omega
         have hwse : wordT G i pr ++ List.replicate j (-mm) ++ List.replicate j2 mm = ws0 := by rw [hlon, hjn, hj2n]
         rw [hwse] at hI
         have hIn : Ints h ov ws0 := hI.own.ints hI.small (by rw [← hwse]; simp; omega)
         have hs0 : Sub h0 h := hs3.trans hsub
         rw [hj2n, Int.sub_self] at g13
         simp [g6, g12, g13]
         unfold pairQ back
         split
         ·rename_i hc
          obtain ⟨ao, hov, _⟩ := hI.own.look
          refine ⟨_, rfl, Sub.refl _, Nat.le_refl _, hIn.flat ?_⟩
          rw [hov] at hc ⊢
          simp [Out.scalar, scalar, flat1] at hc
          exact hc.1
         ·exact ⟨_, rfl, hs0, Nat.le_refl _, hIn⟩
       ·exact ⟨0, h, ov, by omega, rfl, hsub, by simpa using hI, by simp [g6], by simp [g12], by simp [g13]; omega⟩
     ·exact ⟨0, h, ov, by omega, rfl, hsub, by simpa using hI, g6, g12, by simp [g13]⟩
    refine DW_loop (fun kk' fr st => ∃ (r : Nat) (h : List O) (ov : Value), r + kk' + 1 = pr ∧ st = ⟨h, h0.length⟩ ∧ Sub h3 h ∧ LqI h h3.length ov (wordT G i r) ∧ get fr 1 = .int .i64 k ∧ get fr 2 = .pointer (some ⟨h0.length, 0, none⟩) ∧ get fr 6 = .int .i64 mm ∧ get fr 8 = .slice (some ⟨b, 0, none⟩) N N ∧ get fr 10 = .slice (some ⟨P, 0, none⟩) N N ∧ get fr 11 = .int .i64 i ∧ get fr 12 = ov ∧ get fr 13 = .int .i64 (ownT G k i r) ∧ get fr 14 = .int .i64 (itr (nx G) i r)) ?_ (k := pr - 1) ?_
    ·clear g1 g2 g6 g8 g10 g11
     rintro kk' fr st ⟨r, h, ov, hrk, rfl, hsub, hI, g1, g2, g6, g8, g10, g11, g12, g13, g14⟩
     obtain ⟨e, he1⟩ : ∃ e, e = itr (nx G) i r := ⟨_, rfl⟩
     rw [← he1] at g14
     have heG : e < 2 * n := by
      have := (nx_perm hG).itr_lt (a := i) (by rw [hGn]; omega) r
      rw [hGn] at this
      rw [he1]; exact this
     have bh := hsub _ _ b3
     have hxh := (hx.sub hs3).sub hsub
     have hen := endIn hE (c := c) (L := L) hxh hS heG
     have hnx := fun (H : List O) (hc : CrossP H a n x s) => next2_ hE (c := c) (L := L) hc hS heG
     rw [← hGe] at hen hnx
     obtain ⟨cc, hcc⟩ : ∃ cc, cc = G.T e 2 := ⟨_, rfl⟩
     obtain ⟨q, hqq⟩ : ∃ q, q = G.T e 3 := ⟨_, rfl⟩
     obtain ⟨_, _, t2, t3, _⟩ := hG.T e (by rw [hGn]; exact heG)
     rw [← hcc, hGn] at t2
     rw [← hqq] at t3
     have htg : tgt G e true = (cc, q) := by rw [hcc, hqq]; rfl
     rw [htg] at hen
     simp only [dV, endV] at hen hnx
     have hfin : finT G (itr (nx G) i r) = (cc, q) := by rw [← he1, hcc, hqq]; rfl
     have hjh : joined ⟨h, h0.length⟩ ⟨h, h.length⟩ = ⟨h, h0.length⟩ := joined_mk _ _
     have lh := hsub.len
     have hmh : min h0.length h.length = h0.length := by omega
     have hmh1 : min h0.length (h.length + 1) = h0.length := by omega
     simp [g1, g2, g6, g8, g10, g11, g12, g13, g14, rdN_def, ↓bh, DC_of hen, hjh, wrN_at0, set_at0, hmh]
     obtain ⟨H1, hH1⟩ : ∃ H, H = h ++ [O.cells [.int .i64 cc, .int .i64 q] 72 (some 0)] := ⟨_, rfl⟩
     have lH1 : H1.length = h.length + 1 := by rw [hH1]; simp
     have c1 : H1[h.length]? = some (O.cells [.int .i64 cc, .int .i64 q] 72 (some 0)) := by rw [hH1, app_at0]; rfl
     have c0 : H1[h0.length]? = some (O.cells [.slice a n c, .int .i64 L] 24 (some 0)) := by rw [hH1]; exact app_of bh _
     have hx0 := hx
     obtain ⟨xb, xo, hxa, hxr⟩ := hx
     obtain rfl := hxa (by omega)
     have hcr : rdN H1 xb (xo + cc * 5) 5 = some (crossC (x cc) (s cc)) := by
      rw [hH1]
      exact Sub.rdN ((hs3.trans hsub).app _) (hxr cc t2)
     rw [rdN_def] at hcr
     simp only [crossC] at hcr
     have hXx : ∀ q, q < 4 → x cc q = (G.X cc q : Int) := fun q hq => by rw [hGe]; exact sound_x hS t2 hq
     rw [hXx 0 (by omega), hXx 1 (by omega), hXx 2 (by omega), hXx 3 (by omega)] at hcr
     obtain ⟨H2, hH2⟩ : ∃ H, H = H1 ++ [O.cells [.int .i64 (G.X cc 0), .int .i64 (G.X cc 1), .int .i64 (G.X cc 2), .int .i64 (G.X cc 3), .int .i64 (s cc)] 107 (some 0)] := ⟨_, rfl⟩
     have d1 : H2[h.length]? = some (O.cells [.int .i64 cc, .int .i64 q] 72 (some 0)) := by rw [hH2]; exact app_of c1 _
     have d0 : H2[h0.length]? = some (O.cells [.slice (some ⟨xb, xo, none⟩) n c, .int .i64 L] 24 (some 0)) := by rw [hH2]; exact app_of c0 _
     have d2 : H2[H1.length]? = some (O.cells [.int .i64 (G.X cc 0), .int .i64 (G.X cc 1), .int .i64 (G.X cc 2), .int .i64 (G.X cc 3), .int .i64 (s cc)] 107 (some 0)) := by rw [hH2, app_at0]; rfl
     have hmH1 : min h0.length H1.length = h0.length := by omega
     rw [← hH1]
     by_cases hq0 : q = 0
     ·subst hq0
      have x1 : G.X cc 1 < 2 * n := by rw [← hGn]; exact hG.X cc 1 (by rw [hGn]; exact t2) (by omega)
      have x1N : G.X cc 1 < N := by omega
      have d3 : H2[b]? = some (O.cells (intsC (arL G)) 3 (some 0)) := by rw [hH2, hH1]; exact app_of (app_of (hsub _ _ hof3) _) _
      have d4 : H2[P]? = some (O.cells (intsC xs) 3 (some 0)) := by rw [hH2, hH1]; exact app_of (app_of (hsub _ _ hxs) _) _
      have ga : (intsC (arL G))[G.X cc 1]? = some (.int .i64 (arN G (G.X cc 1))) := by
       rw [intsC_get (by omega)]
       unfold arL
       rw [tabL_nth (by rw [hGn]; exact x1)]
      have gx1 : (intsC xs)[G.X cc 1]? = some (.int .i64 (nth xs (G.X cc 1))) := intsC_get (by omega)
      have hge := gen_le hG (i := cc) (q := 1) (by rw [hGn]; exact t2) (by omega)
      have hac := arC_le G
      have z1 : IntKind.i64.wrap ((arN G (G.X cc 1) : Int) + 1) = gen G (G.X cc 1) := by
       show IntKind.i64.wrap (gen G (G.X cc 1)) = _
       rw [w64_id] <;> omega
      have z2 : IntKind.i64.wrap (s cc * gen G (G.X cc 1)) = gen G (G.X cc 1) * s cc := by
       rcases hS.sign cc t2 with e | e <;> rw [e] <;> rw [w64_id] <;> omega
      have hmb : -1000 ≤ gen G (G.X cc 1) * s cc ∧ gen G (G.X cc 1) * s cc ≤ 1000 := by
       rcases hS.sign cc t2 with e | e <;> rw [e] <;> omega
      have hI2 : LqI H2 h3.length ov (wordT G i r) := by rw [hH2, hH1]; exact (hI.app _).app _
      have hwl := wordT_len G i r
      obtain ⟨b', H4, happ, K4, hI4⟩ := hI2.add (fl := h0.length) hmb (by omega) (by omega)
      have l2' : H2.length = H1.length + 1 := by rw [hH2]; simp
      have e0 := K4 _ _ (.inl (List.getElem?_eq_some_iff.1 b3).1) d0
      have e2 := K4 _ _ (.inr (fun cs s h => by cases h)) d2
      have e4 := K4 _ _ (.inl (by have := (List.getElem?_eq_some_iff.1 hxs).1; omega)) d4
      have hs4 : Sub h3 H4 := fun b o hb => K4 b o (.inl (List.getElem?_eq_some_iff.1 hb).1) (by rw [hH2, hH1]; exact app_of (app_of (hsub b o hb) _) _)
      have hx4 : CrossP H4 (some ⟨xb, xo, none⟩) n x s := hx0.sub (hs3.trans hs4)
      have hn4 := hnx H4 hx4
      have l4 : h0.length ≤ H4.length := Nat.le_trans hs3.len hs4.len
      have hj4 : joined ⟨H4, h0.length⟩ ⟨H4, H4.length⟩ = ⟨H4, h0.length⟩ := joined_mk _ _
      have e00 : H4[h0.length]? = some (O.cells [.slice (some ⟨xb, xo, none⟩) n c, .int .i64 L] 24 (some 0)) := e0
      have how := ownT_le hG (k := k) hiG r
      have hwi : wordT G i (r + 1) = wordT G i r ++ [gen G (G.X cc 1) * s cc] := by
       simp only [wordT, hfin, wordP, if_true, hGs]
      have hitr : itr (nx G) i (r + 1) = nx G e := by rw [he1]; rfl
      have hwl4 : (wordT G i (r + 1)).length = (wordT G i r).length + 1 := by rw [hwi]; simp
      rw [← hwi, ← hwl4] at hI4
      rw [← hwl4] at happ
      by_cases hgk : nth xs (G.X cc 1) = k
      ·have hwo : ownT G k i (r + 1) = ownT G k i r + s cc := by
        simp only [ownT, hfin, ownP, hGs]
        rw [if_pos ⟨trivial, by rw [← hxe]; exact hgk⟩]
       have z3 : IntKind.i64.wrap (ownT G k i r + s cc) = ownT G k i r + s cc := by
        rcases hS.sign cc t2 with e | e <;> rw [e] <;> rw [w64_id] <;> omega
       by_cases hlast : r + 1 = pr
       ·have hne2 : nx G e = i := by rw [← hitr, hlast]; exact p2
        simp [rd_def, ↓c0, ↓c1, rdN_def, hcr, t2, wrN_at0, set_at0, ↓← hH2, hmH1, ↓d1, ↓d2, ↓d0, g1, g2, g6, g8, g10, g11, g12, g13, g14, x1N, ↓d3, ga, z1, z2, happ, bit, ↓e0, ↓e2, ↓e4, gx1, hgk, z3, DC_of hn4, hj4, hne2]
        rw [← hlast]
        exact ⟨hs4, _, hI4, rfl, hwo.symm⟩
       ·have hne2 : ¬ nx G e = i := by rw [← hitr]; exact p4 _ (by omega) (by omega)
        simp [rd_def, ↓c0, ↓c1, rdN_def, hcr, t2, wrN_at0, set_at0, ↓← hH2, hmH1, ↓d1, ↓d2, ↓d0, g1, g2, g6, g8, g10, g11, g12, g13, g14, x1N, ↓d3, ga, z1, z2, happ, bit, ↓e0, ↓e2, ↓e4, gx1, hgk, z3, DC_of hn4, hj4, hne2]
        exact ⟨kk' - 1, by omega, r + 1, by omega, hs4, _, hI4, rfl, hwo.symm, hitr.symm⟩
      ·have hwo : ownT G k i (r + 1) = ownT G k i r := by
        simp only [ownT, hfin, ownP, hGs]
        rw [if_neg (fun h => hgk (by rw [hxe]; exact h.2)), Int.add_zero]
       by_cases hlast : r + 1 = pr
       ·have hne2 : nx G e = i := by rw [← hitr, hlast]; exact p2
        simp [rd_def, ↓c0, ↓c1, rdN_def, hcr, t2, wrN_at0, set_at0, ↓← hH2, hmH1, ↓d1, ↓d2, ↓d0, g1, g2, g6, g8, g10, g11, g12, g13, g14, x1N, ↓d3, ga, z1, z2, happ, bit, ↓e0, ↓e2, ↓e4, gx1, hgk, DC_of hn4, hj4, hne2]
        rw [← hlast]
        exact ⟨hs4, _, hI4, rfl, hwo.symm⟩
       ·have hne2 : ¬ nx G e = i := by rw [← hitr]; exact p4 _ (by omega) (by omega)
        simp [rd_def, ↓c0, ↓c1, rdN_def, hcr, t2, wrN_at0, set_at0, ↓← hH2, hmH1, ↓d1, ↓d2, ↓d0, g1, g2, g6, g8, g10, g11, g12, g13, g14, x1N, ↓d3, ga, z1, z2, happ, bit, ↓e0, ↓e2, ↓e4, gx1, hgk, DC_of hn4, hj4, hne2]
        exact ⟨kk' - 1, by omega, r + 1, by omega, hs4, _, hI4, rfl, hwo.symm, hitr.symm⟩
     ·have hwo : ownT G k i (r + 1) = ownT G k i r := by
       simp only [ownT, hfin, ownP, hGs]
       rw [if_neg (fun h => hq0 h.1), Int.add_zero]
      have hwi : wordT G i (r + 1) = wordT G i r := by
       simp only [wordT, hfin, wordP]
       rw [if_neg hq0, List.append_nil]
      have hitr : itr (nx G) i (r + 1) = nx G e := by rw [he1]; rfl
      have hI4 : LqI H2 h3.length ov (wordT G i (r + 1)) := by rw [hwi, hH2, hH1]; exact (hI.app _).app _
      have hs4 : Sub h3 H2 := by rw [hH2, hH1]; exact (hsub.app _).app _
      have hx4 : CrossP H2 (some ⟨xb, xo, none⟩) n x s := hx0.sub (hs3.trans hs4)
      have hn4 := hnx H2 hx4
      have hj4 : joined ⟨H2, h0.length⟩ ⟨H2, H2.length⟩ = ⟨H2, h0.length⟩ := joined_mk _ _
      by_cases hlast : r + 1 = pr
      ·have hne2 : nx G e = i := by rw [← hitr, hlast]; exact p2
       simp [rd_def, ↓c0, ↓c1, rdN_def, hcr, t2, wrN_at0, set_at0, ↓← hH2, hmH1, ↓d1, ↓d2, ↓d0, g1, g2, g6, g8, g10, g11, g12, g13, g14, hq0, DC_of hn4, hj4, hne2]
       rw [← hlast]
       exact ⟨hs4, _, hI4, rfl, hwo.symm⟩
      ·have hne2 : ¬ nx G e = i := by rw [← hitr]; exact p4 _ (by omega) (by omega)
       simp [rd_def, ↓c0, ↓c1, rdN_def, hcr, t2, wrN_at0, set_at0, ↓← hH2, hmH1, ↓d1, ↓d2, ↓d0, g1, g2, g6, g8, g10, g11, g12, g13, g14, hq0, DC_of hn4, hj4, hne2]
       exact ⟨kk' - 1, by omega, r + 1, by omega, hs4, _, hI4, rfl, hwo.symm, hitr.symm⟩
    ·exact ⟨0, h3, emptyS, by omega, rfl, Sub.refl _, ⟨.inl ⟨rfl, rfl, rfl⟩, fun y hy => by simp [wordT] at hy, Nat.le_refl _⟩, by simp [g1, g2, g6, g8, g10, g11, ownT, itr]⟩
   ·simp [g1, g2, g6, g8, g10, g11, hi, rd_def, ↓hxs, gx, he, hw]
    refine ⟨kk - 1, by omega, i + 1, by omega, fun j hj => ?_, by omega⟩
    by_cases e : j = i
    ·rw [e]; exact he
    ·exact hd j (by omega)
  ·have hiN : i = N := by omega
   have hfi : fstA G k = -1 := by
    rw [hfst]
    rcases firstI_cases (fun j => decide (nth xs j = k)) N with ⟨j, h1, h2, _⟩ | ⟨_, h2⟩
    ·exact absurd (by simpa using h2) (hd j (by omega))
    ·exact h2
   have hws : ws0 = [] := by rw [hws0]; unfold lonD; rw [hfi, if_neg (by decide)]
   simp [g1, g2, g6, g8, g10, g11, hiN]
   have hs3 : Sub h0 h3 := (s1.trans s2).trans s3
   have hI : ∀ h, Ints h emptyS ws0 := fun h => by
    rw [hws]
    exact ⟨some ⟨0, 0, some 0⟩, 0, 0, 0, rfl, fun h => absurd h (by simp), fun i hi => absurd hi (by simp), fun i => by rw [nth_ge (by simp)]; decide, by simp⟩
   unfold pairQ back
   split
   ·exact ⟨_, rfl, Sub.refl _, Nat.le_refl _, hI _⟩
   ·exact ⟨_, rfl, hs3, Nat.le_refl _, hI _⟩
 ·exact ⟨0, by omega, rfl, fun j hj => by omega, by simp⟩
end Go.Proofs.Ytjlkndkedknocaa
namespace Go.Proofs.Ytjlkndkedknocaa
open Go Go.Ai
attribute [local instance] Classical.propDecidable
noncomputable def lonE (n : Nat) (x : Nat → Nat → Int) (s : Nat → Int) (L k : Int) : Int := if kindD n x s L ≠ 0 then kindD n x s L else if 0 ≤ k ∧ k < cpK (dgOf n x s L) + L then 0 else 1
noncomputable def lonW (n : Nat) (x : Nat → Nat → Int) (s : Nat → Int) (L k : Int) : List Int := if kindD n x s L ≠ 0 then [] else if 0 ≤ k ∧ k < cpK (dgOf n x s L) + L then lonD (dgOf n x s L) k else []
noncomputable def merW (n : Nat) (x : Nat → Nat → Int) (s : Nat → Int) (L k : Int) : Int := if kindD n x s L ≠ 0 then 0 else if 0 ≤ k ∧ k < cpK (dgOf n x s L) + L then merD (dgOf n x s L) k else 0
def LonU (h0 : List O) (ws : List Int) (e : Int) (o : Out) (st' : St) : Prop := ∃ v, o = .ret (.tuple #[v, .int .i64 e]) ∧ Sub h0 st'.h ∧ h0.length ≤ st'.fl ∧ Ints st'.h v ws
theorem ints_nil (h : List O) : Ints h (.slice none 0 0) [] := ⟨none, 0, 0, 0, rfl, fun h => absurd h (by simp), fun i hi => absurd hi (by simp), fun i => by rw [nth_ge (by simp)]; decide, by simp⟩
variable {E : Env} (hE : OE E)
include hE
theorem meridianU_ {h0 : List O} {a : Option Addr} {n c : Nat} {x : Nat → Nat → Int} {s : Nat → Int} {L : Int} (hx : CrossP h0 a n x s) (k : Int) :
  DR E 69 [dV a n c L, .int .i64 k] ⟨h0, h0.length⟩ (.ret (.tuple #[.int .i64 (merW n x s L k), .int .i64 (lonE n x s L k)])) ⟨h0, h0.length⟩ := by
 have h := meridian_ hE (c := c) (L := L) hx k
 unfold merW lonE
 by_cases hk : kindD n x s L ≠ 0
 ·simpa only [if_pos hk] using h
 ·simp only [if_neg hk] at h ⊢
  by_cases hi : 0 ≤ k ∧ k < cpK (dgOf n x s L) + L
  ·simpa only [if_pos hi] using h
  ·simpa only [if_neg hi] using h
theorem meridianRU_ {h0 : List O} {a : Option Addr} {n c : Nat} {x : Nat → Nat → Int} {s : Nat → Int} {L : Int} (hx : CrossP h0 a n x s) (k : Int) :
  DR E 73 [dV a n c L, .int .i64 k] ⟨h0, h0.length⟩ (.ret (.tuple #[.int .i64 (merW n x s L k), .int .i64 (lonE n x s L k)])) ⟨h0, h0.length⟩ := by
 have h := meridianR_ hE (c := c) (L := L) hx k
 unfold merW lonE
 by_cases hk : kindD n x s L ≠ 0
 ·simpa only [if_pos hk] using h
 ·simp only [if_neg hk] at h ⊢
  by_cases hi : 0 ≤ k ∧ k < cpK (dgOf n x s L) + L
  ·simpa only [if_pos hi] using h
  ·simpa only [if_neg hi] using h
theorem longitudeU_ (hWk : ∀ (h : List O) (pl n : Nat) (x : Nat → Nat → Int) (s : Nat → Int) (L i : Int), LnkP h pl n x s L → Snd n x s L → DR E 148 [.pointer (some ⟨pl, 0, none⟩), .int .i64 i] ⟨h, h.length⟩ (.ret (walkV h)) ⟨walkM h pl i (dgOf n x s L), h.length⟩)
  {h0 : List O} {a : Option Addr} {n c : Nat} {x : Nat → Nat → Int} {s : Nat → Int} {L : Int} (hx : CrossP h0 a n x s) (k : Int) :
  DC E 70 [dV a n c L, .int .i64 k] ⟨h0, h0.length⟩ (LonU h0 (lonW n x s L k) (lonE n x s L k)) := by
 refine (longitude_ hE hWk (c := c) (L := L) hx k).imp fun o st' hq => ?_
 unfold LonU lonW lonE
 rcases hq with ⟨h1, rfl, rfl⟩ | ⟨h1, h2, rfl, rfl⟩ | ⟨h1, h2, v, rfl, z1, z2, z3⟩
 ·simp only [if_pos h1]
  exact ⟨_, rfl, Sub.refl _, Nat.le_refl _, ints_nil _⟩
 ·simp only [ne_eq, h1, not_true_eq_false, if_false, if_neg h2]
  exact ⟨_, rfl, Sub.refl _, Nat.le_refl _, ints_nil _⟩
 ·simp only [ne_eq, h1, not_true_eq_false, if_false, if_pos h2]
  exact ⟨_, rfl, z1, z2, z3⟩
theorem longRU_ {h0 : List O} {a : Option Addr} {n c : Nat} {x : Nat → Nat → Int} {s : Nat → Int} {L : Int} (hx : CrossP h0 a n x s) (k : Int) :
  DC E 74 [dV a n c L, .int .i64 k] ⟨h0, h0.length⟩ (LonU h0 (lonW n x s L k) (lonE n x s L k)) := by
 by_cases hgood : kindD n x s L = 0 ∧ (0 ≤ k ∧ k < cpK (dgOf n x s L) + L)
 ·obtain ⟨h1, h2⟩ := hgood
  refine (longR1_ hE (c := c) hx k h1 h2).imp fun o st' hq => ?_
  unfold LonU lonW lonE
  simp only [ne_eq, h1, not_true_eq_false, if_false, if_pos h2]
  obtain ⟨v, rfl, z1, z2, z3⟩ := hq
  exact ⟨_, rfl, z1, z2, z3⟩
 ·have hw : lonW n x s L k = [] := by
   unfold lonW
   by_cases h1 : kindD n x s L ≠ 0
   ·rw [if_pos h1]
   ·rw [if_neg h1, if_neg fun h2 => hgood ⟨by simpa using h1, h2⟩]
  have he : lonE n x s L k ≠ 0 := by
   unfold lonE
   by_cases h1 : kindD n x s L ≠ 0
   ·rw [if_pos h1]; exact h1
   ·rw [if_neg h1, if_neg fun h2 => hgood ⟨by simpa using h1, h2⟩]; decide
  refine hE.fnC (body := rb74) rfl ?_
  unfold rb74
  obtain ⟨h1, hh1⟩ : ∃ H, H = h0 ++ [O.cells [.slice a n c, .int .i64 L] 24 (some 0)] := ⟨_, rfl⟩
  have s1 : Sub h0 h1 := by rw [hh1]; exact (Sub.refl _).app _
  have b0 : h1[h0.length]? = some (O.cells [.slice a n c, .int .i64 L] 24 (some 0)) := by rw [hh1, app_at0]; rfl
  have hx1 := hx.sub s1
  have hm := meridianRU_ hE (c := c) (L := L) hx1 k
  have hj1 : joined ⟨h1, h0.length⟩ ⟨h1, h1.length⟩ = ⟨h1, h0.length⟩ := joined_mk _ _
  simp only [dV] at hm ⊢
  rw [hw]
  simp [← hh1, rdN_def, b0, DC_of hm, hj1, he]
  unfold pairQ back
  split
  ·exact ⟨_, rfl, Sub.refl _, Nat.le_refl _, ints_nil _⟩
  ·exact ⟨_, rfl, s1, Nat.le_refl _, ints_nil _⟩
end Go.Proofs.Ytjlkndkedknocaa
namespace Go.Ai
theorem matP_of {h : List O} {v : Value} (hf : Fits h (.slice [.slice [.int .i64]]) v) : ∃ A, MatP h v A ∧ ∀ i, i < A.length → (nthR A i).length * 8 ≤ roomMax := by
 cases hf with
 | slice b o vs hn ha hr hv =>
  rename_i a n c
  have key : ∀ i, i < n → ∃ x xs, vs i = [x] ∧ Ints h x xs ∧ PartI h x ∧ xs.length * 8 ≤ roomMax := fun i hi => by
   have h1 := hr i hi
   have hl : (vs i).length = 1 := by
    unfold rdN at h1
    split at h1
    ·split at h1
     ·have := Option.some.inj h1
      rw [← this]
      simp at *
      omega
     ·cases h1
    ·cases h1
   obtain ⟨x, hx⟩ := List.length_eq_one_iff.1 hl
   have hfit := hv i 0 _ x hi rfl (by rw [hx]; rfl)
   obtain ⟨xs, hxs⟩ := ints_of hfit
   obtain ⟨k1, k2⟩ := ints_room hfit hxs
   exact ⟨x, xs, hx, hxs, k2, k1⟩
  have hnl : ((List.range n).map fun i => if hi : i < n then (key i hi).choose_spec.choose else []).length = n := by simp
  have hnth : ∀ i (hi : i < n), nthR ((List.range n).map fun i => if hi : i < n then (key i hi).choose_spec.choose else []) i = (key i hi).choose_spec.choose := fun i hi => by simp [nthR, hi]
  refine ⟨(List.range n).map fun i => if hi : i < n then (key i hi).choose_spec.choose else [], ⟨a, b, o, c, fun i => if hi : i < n then (key i hi).choose else undef, by simp, fun h0 => ha (by simpa using h0), fun i hi => ?_, by have h0 := hn.1; simp [reachBytes, szB] at h0 ⊢; omega⟩, fun i hi => ?_⟩
  ·simp at hi
   have hs := (key i hi).choose_spec.choose_spec
   have h1 := hr i hi
   rw [hs.1] at h1
   refine ⟨?_, ?_, ?_⟩
   ·rw [← rd_def]
    simp [hi]
    unfold rdN at h1
    unfold rd
    split at h1
    ·rename_i cc el own hb
     split at h1
     ·have h2 := Option.some.inj h1
      simp at h2
      have h3 : (List.take 1 (List.drop (o + i) cc))[0]? = some (key i hi).choose := by rw [h2]; simp
      rw [List.getElem?_take_of_lt (by omega), List.getElem?_drop] at h3
      simpa using h3
     ·cases h1
    ·cases h1
   ·rw [hnth i hi]
    simp only [hi, dif_pos]
    exact hs.2.1
   ·simp only [hi, dif_pos]
    exact hs.2.2.1
  ·rw [hnl] at hi
   rw [hnth i hi]
   exact (key i hi).choose_spec.choose_spec.2.2.2
end Go.Ai
namespace Go.Ai
variable {E : Env}
@[simp] theorem quietOp_strIdx {a b} : quietOp (.strIdx a b) = true := rfl
@[simp] theorem DL_strIdx {a b} {dst : Option Nat} {anc : Nat} {os : List ROper} {fr st} {Q : Post} : DL E (⟨dst, none, .strIdx a b, anc⟩ :: os) fr st Q ↔ resQ (step (.strIdx a b) (ev fr) st) (stepK E dst os fr Q) := (DL_step' rfl).trans stepW_res
@[simp] theorem quietOp_strSl {a b c} : quietOp (.strSl a b c) = true := rfl
@[simp] theorem DL_strSl {a b c} {dst : Option Nat} {anc : Nat} {os : List ROper} {fr st} {Q : Post} : DL E (⟨dst, none, .strSl a b c, anc⟩ :: os) fr st Q ↔ resQ (step (.strSl a b c) (ev fr) st) (stepK E dst os fr Q) := (DL_step' rfl).trans stepW_res
@[simp] theorem DD_strSl {a b c} {i : Nat} {acc : List (Nat × FP)} {dst : Option Nat} {anc : Nat} {os : List ROper} {fr st} {Q : Post} : DD E i acc (⟨dst, none, .strSl a b c, anc⟩ :: os) fr st Q ↔ resQ (step (.strSl a b c) (ev fr) st) (stepKD E i acc ⟨dst, none, .strSl a b c, anc⟩ os fr st Q) := (DD_step' rfl).trans stepW_res
@[simp] theorem quietOp_strOf {a} : quietOp (.strOf a) = true := rfl
@[simp] theorem DL_strOf {a} {dst : Option Nat} {anc : Nat} {os : List ROper} {fr st} {Q : Post} : DL E (⟨dst, none, .strOf a, anc⟩ :: os) fr st Q ↔ resQ (step (.strOf a) (ev fr) st) (stepK E dst os fr Q) := (DL_step' rfl).trans stepW_res
variable {e : Operand → Value} {st : St}
@[simp] theorem step_strIdx {x i} : step (.strIdx x i) e st = valS (strIdxV (e x) (e i)) st := rfl
@[simp] theorem step_strSl {x lo hi} : step (.strSl x lo hi) e st = valS (strSlV (e x) (lo.map e) (hi.map e)) st := rfl
@[simp] theorem step_strOf {x} : step (.strOf x) e st = valS (strOfV st.h (e x)) st := rfl
@[simp] theorem fpOf_strIdx {a b} : fpOf (.strIdx a b) e st = {} := rfl
@[simp] theorem fpOf_strSl {a b c} : fpOf (.strSl a b c) e st = {} := rfl
@[simp] theorem fpOf_strOf {a} : fpOf (.strOf a) e st = { r := blk (e a) } := rfl
@[simp] theorem blk_str {s} : blk (.string s) = [] := rfl
@[simp] theorem binV_strEq {a b} : binV .eql (.string a) (.string b) = some (.bool (a.toList == b.toList)) := rfl
@[simp] theorem binV_strNe {a b} : binV .neq (.string a) (.string b) = some (.bool (!(a.toList == b.toList))) := rfl
@[simp] theorem lenV_str {h s} : lenV h 1 (.string s) = some (.int .i64 s.size) := rfl
def tkB (T s : ByteArray) (pos : Nat) : Bool := decide (pos + s.size ≤ T.size) && ((T.extract pos (pos + s.size)).toList == s.toList)
theorem strSl_at {T : ByteArray} {a b : Nat} (h : a ≤ b) (hb : b ≤ T.size) : strSlV (.string T) (some (.int .i64 a)) (some (.int .i64 b)) = some (.string (T.extract a b)) := by
 have h1 : (a : Int) ≤ b := by omega
 have h2 : (b : Int) ≤ T.size := by omega
 simp [strSlV, hiB, loB, bound, h, hb]
end Go.Ai
namespace Go.Proofs.Ytjlkndkedknocaa
open Go Go.Ai
attribute [local instance] Classical.propDecidable
variable {E : Env} (hE : OE E)
include hE
theorem take_ {h : List O} {r pos : Nat} {T s : ByteArray} {ok : Bool} (hr : h[r]? = some (.cells [.string T, .int .i64 pos, .bool ok] 223 (some 0))) (hT : T.size ≤ 200000) (hs : s.size ≤ 100) (hp : pos ≤ T.size) :
  DR E 182 [.pointer (some ⟨r, 0, none⟩), .string s] ⟨h, h.length⟩ (.ret (.bool (tkB T s pos))) (if tkB T s pos = true then ⟨h.set r (.cells [.string T, .int .i64 ((pos + s.size : Nat) : Int), .bool ok] 223 (some 0)), r⟩ else ⟨h, h.length⟩) := by
 refine hE.fn (body := rb182) rfl ?_
 unfold rb182
 have hw : IntKind.i64.wrap ((pos : Int) + (s.size : Int)) = ((pos + s.size : Nat) : Int) := by rw [w64_id] <;> omega
 have lr := (List.getElem?_eq_some_iff.1 hr).1
 by_cases h1 : pos + s.size ≤ T.size
 ·have h1' : ((pos + s.size : Nat) : Int) ≤ (T.size : Int) := by omega
  have hsl := strSl_at (T := T) (a := pos) (b := pos + s.size) (by omega) h1
  by_cases h2 : (T.extract pos (pos + s.size)).toList == s.toList
  ·have hb : tkB T s pos = true := by unfold tkB; simp [h1, h2]
   rw [hb]
   have hw' := hw
   push_cast at hw' h1' hsl
   simp [rd_def, hr, hw', h1', hsl, h2, wrN_def, endK_ret, back]
   rw [if_neg (by omega), show min h.length r = r by omega]
   exact ⟨rfl, rfl⟩
  ·have hb : tkB T s pos = false := by unfold tkB; simp [h2]
   rw [hb]
   have hw' := hw
   push_cast at hw' h1' hsl
   simp [rd_def, hr, hw', h1', hsl, h2, endK_ret, back]
 ·have h1' : ¬ ((pos + s.size : Nat) : Int) ≤ (T.size : Int) := by omega
  have hb : tkB T s pos = false := by unfold tkB; simp [h1]
  rw [hb]
  have hw' := hw
  push_cast at hw' h1'
  simp [rd_def, hr, hw', h1', endK_ret, back]
theorem decimal_ {h : List O} {n : Nat} {S : ByteArray} (hn : n < 10) (hS : ByteArray.empty.push (UInt8.ofNat (48 + (n : Int)).toNat) = S) : DR E 227 [.int .i64 n] ⟨h, h.length⟩ (.ret (.string S)) ⟨h, h.length⟩ := by
 refine hE.fn (body := rb227) rfl ?_
 unfold rb227
 have h1 : (n : Int) < 10 := by omega
 have hw : IntKind.i64.wrap (48 + (n : Int)) = 48 + (n : Int) := by rw [w64_id] <;> omega
 have hw8 : IntKind.u8.wrap (48 + (n : Int)) = 48 + (n : Int) := by
  match n, hn with
  | 0, _ => rfl
  | 1, _ => rfl
  | 2, _ => rfl
  | 3, _ => rfl
  | 4, _ => rfl
  | 5, _ => rfl
  | 6, _ => rfl
  | 7, _ => rfl
  | 8, _ => rfl
  | 9, _ => rfl
 have hsc : (Out.ret (Value.string S)).scalar = true := rfl
 simp [h1, hw, hw8, strOfV, byteS, hS, endK_ret, back, hsc]
theorem number_ {h : List O} {r pos n : Nat} {T S : ByteArray} {ok : Bool} (hr : h[r]? = some (.cells [.string T, .int .i64 pos, .bool ok] 223 (some 0))) (hT : T.size ≤ 200000) (hp : pos < T.size) (hn : n < 10)
  (hd : strIdxV (.string T) (.int .i64 pos) = some (.int .u8 ((48 + n : Nat) : Int))) (he : pos + 1 < T.size → ∃ c : Int, strIdxV (.string T) (.int .i64 ((pos : Int) + 1)) = some (.int .u8 c) ∧ (c < 48 ∨ 57 < c))
  (hS : ByteArray.empty.push (UInt8.ofNat (48 + (n : Int)).toNat) = S) (hx : S.toList == (T.extract pos (pos + 1)).toList) :
  DR E 183 [.pointer (some ⟨r, 0, none⟩)] ⟨h, h.length⟩ (.ret (.int .i64 n)) ⟨h.set r (.cells [.string T, .int .i64 ((pos : Int) + 1), .bool ok] 223 (some 0)), r⟩ := by
 refine hE.fn (body := rb183) rfl ?_
 unfold rb183
 have lr := (List.getElem?_eq_some_iff.1 hr).1
 have hw00 : IntKind.i64.wrap 0 = 0 := rfl
 have hw1 : IntKind.i64.wrap ((pos : Int) + 1) = (pos : Int) + 1 := by rw [w64_id] <;> omega
 have hw2 : IntKind.i64.wrap (48 + (n : Int)) = 48 + (n : Int) := by rw [w64_id] <;> omega
 have hw3 : IntKind.i64.wrap (48 + (n : Int) - 48) = (n : Int) := by rw [w64_id] <;> omega
 have hw5 : IntKind.i64.wrap ((pos : Int) + 1 - pos) = 1 := by rw [w64_id] <;> omega
 push_cast at hd
 have c1 : (48 : Int) ≤ 48 + n := by omega
 have c2 : 48 + (n : Int) ≤ 57 := by omega
 obtain ⟨h1, hh1⟩ : ∃ h1, h1 = h.set r (.cells [.string T, .int .i64 ((pos : Int) + 1), .bool ok] 223 (some 0)) := ⟨_, rfl⟩
 have hr1 : h1[r]? = some (.cells [.string T, .int .i64 ((pos : Int) + 1), .bool ok] 223 (some 0)) := by rw [hh1]; exact set_self hr
 have hmr : min h.length r = r := by omega
 rw [← hh1]
 simp [rd_def, hr]
 refine DW_loop (fun kk fr st => get fr 0 = .pointer (some ⟨r, 0, none⟩) ∧ get fr 3 = .int .i64 pos ∧ ((kk = 1 ∧ st = ⟨h, h.length⟩ ∧ get fr 4 = .int .i64 0) ∨ (kk = 0 ∧ st = ⟨h1, r⟩ ∧ get fr 4 = .int .i64 n))) ?_ (k := 1) ?_
 ·rintro kk fr st ⟨g0, g3, ⟨rfl, rfl, g4⟩ | ⟨rfl, rfl, g4⟩⟩
  ·simp [g0, g3, g4, rd_def, hr, hp, hd, hw00, hw1, hw2, hw3, c1, c2, wrN_def, ← hh1, hmr]
  ·have hdec := decimal_ hE (h := h1) hn hS
   have l1 : h1.length = h.length := by rw [hh1]; simp
   have hsl := strSl_at (T := T) (a := pos) (b := pos + 1) (by omega) (by omega)
   push_cast at hsl
   have hn1000 : ¬ (1000 < (n : Int)) := by omega
   have hne : ¬ ((pos : Int) + 1 = pos) := by omega
   have hjo : joined ⟨h1, r⟩ ⟨h1, h1.length⟩ = ⟨h1, r⟩ := joined_fl (Nat.le_refl _)
   have hsc : (Out.ret (Value.int .i64 (n : Int))).scalar = true := rfl
   have hnr : ¬ h.length ≤ r := by omega
   by_cases hl : pos + 1 < T.size
   ·obtain ⟨c, e1, e2⟩ := he hl
    have hl' : (pos : Int) + 1 < (T.size : Int) := by omega
    by_cases e3 : 48 ≤ c
    ·have e4 : ¬ (c ≤ 57) := by omega
     simp [g0, g3, g4, rd_def, hr1, hl', e1, e3, e4, hw5, DC_of hdec, hsl, hx, hn1000, hne, hjo, endK_ret, back, hsc, hnr, bit]
    ·simp [g0, g3, g4, rd_def, hr1, hl', e1, e3, hw5, DC_of hdec, hsl, hx, hn1000, hne, hjo, endK_ret, back, hsc, hnr, bit]
   ·have hl' : ¬ ((pos : Int) + 1 < (T.size : Int)) := by omega
    simp [g0, g3, g4, rd_def, hr1, hl', hw5, DC_of hdec, hsl, hx, hn1000, hne, hjo, endK_ret, back, hsc, hnr, bit]
 ·simp
omit hE in
def numB (T : ByteArray) (pos n : Nat) : Bool :=
 decide (pos < T.size) && decide (n < 10) && (match strIdxV (.string T) (.int .i64 pos) with | some (.int .u8 c) => c == 48 + n | _ => false) &&
 (!decide (pos + 1 < T.size) || match strIdxV (.string T) (.int .i64 ((pos : Int) + 1)) with | some (.int .u8 c) => decide (c < 48 ∨ 57 < c) | _ => false) &&
 ((ByteArray.empty.push (UInt8.ofNat (48 + (n : Int)).toNat)).toList == (T.extract pos (pos + 1)).toList)
theorem numberB_ {h : List O} {r pos n : Nat} {T : ByteArray} {ok : Bool} (hr : h[r]? = some (.cells [.string T, .int .i64 pos, .bool ok] 223 (some 0))) (hT : T.size ≤ 200000) (hb : numB T pos n = true) :
  DR E 183 [.pointer (some ⟨r, 0, none⟩)] ⟨h, h.length⟩ (.ret (.int .i64 n)) ⟨h.set r (.cells [.string T, .int .i64 ((pos : Int) + 1), .bool ok] 223 (some 0)), r⟩ := by
 unfold numB at hb
 simp only [Bool.and_eq_true, decide_eq_true_eq, Bool.or_eq_true, Bool.not_eq_true', decide_eq_false_iff_not] at hb
 obtain ⟨⟨⟨⟨h1, h2⟩, h3⟩, h4⟩, h5⟩ := hb
 refine number_ hE hr hT h1 h2 ?_ (fun hl => ?_) rfl h5
 ·split at h3
  ·rename_i c hc
   rw [hc, beq_iff_eq.1 h3]
   push_cast
   rfl
  ·cases h3
 ·rcases h4 with h4 | h4
  ·exact absurd hl h4
  ·split at h4
   ·rename_i c hc
    exact ⟨c, hc, by simpa using h4⟩
   ·cases h4
theorem takeT_ {h : List O} {r pos : Nat} {T s : ByteArray} {ok : Bool} (hr : h[r]? = some (.cells [.string T, .int .i64 pos, .bool ok] 223 (some 0))) (hT : T.size ≤ 200000) (hs : s.size ≤ 100) (hp : pos ≤ T.size) (hb : tkB T s pos = true) :
  DR E 182 [.pointer (some ⟨r, 0, none⟩), .string s] ⟨h, h.length⟩ (.ret (.bool true)) ⟨h.set r (.cells [.string T, .int .i64 ((pos + s.size : Nat) : Int), .bool ok] 223 (some 0)), r⟩ := by
 have := take_ hE hr hT hs hp
 rw [hb, if_pos rfl] at this
 exact this
theorem takeF_ {h : List O} {r pos : Nat} {T s : ByteArray} {ok : Bool} (hr : h[r]? = some (.cells [.string T, .int .i64 pos, .bool ok] 223 (some 0))) (hT : T.size ≤ 200000) (hs : s.size ≤ 100) (hp : pos ≤ T.size) (hb : tkB T s pos = false) :
  DR E 182 [.pointer (some ⟨r, 0, none⟩), .string s] ⟨h, h.length⟩ (.ret (.bool false)) ⟨h, h.length⟩ := by
 have := take_ hE hr hT hs hp
 rw [hb, if_neg (by simp)] at this
 exact this
end Go.Proofs.Ytjlkndkedknocaa
namespace Go.Proofs.Ytjlkndkedknocaa
open Go Go.Ai
def textB : ByteArray := ByteArray.mk (List.toArray (43 :: 32 :: 51 :: 32 :: 49 :: 32 :: 52 :: 32 :: 48 :: 59 :: 32 :: 43 :: 32 :: 53 :: 32 :: 51 :: 32 :: 48 :: 32 :: 50 :: 59 :: 32 :: 43 :: 32 :: 49 :: 32 :: 53 :: 32 :: 50 :: 32 :: 52 :: 32 :: 124 :: 32 :: 48 :: []))
def rowT : List (List Int) := [[3, 1, 4, 0], [5, 3, 0, 2], [1, 5, 2, 4]]
def xT : Nat → Nat → Int := fun i j => nth (nthR rowT i) j
def sT : Nat → Int := fun _ => 1
set_option maxRecDepth 100000
theorem textB_size : textB.size = 35 := by kernel_rfl
theorem tk_plus : (List.range 3).all (fun i => tkB textB (ByteArray.mk (List.toArray [43])) (11 * i)) = true := by kernel_rfl
theorem tk_blank : (List.range 3).all (fun i => (List.range 4).all fun q => tkB textB (ByteArray.mk (List.toArray [32])) (11 * i + 1 + 2 * q)) = true := by kernel_rfl
theorem tk_num : (List.range 3).all (fun i => (List.range 4).all fun q => numB textB (11 * i + 2 + 2 * q) (xT i q).toNat) = true := by kernel_rfl
theorem tk_semi : (List.range 2).all (fun i => tkB textB (ByteArray.mk (List.toArray [59, 32])) (11 * i + 9)) = true := by kernel_rfl
theorem tk_semi2 : tkB textB (ByteArray.mk (List.toArray [59, 32])) 31 = false := by kernel_rfl
theorem tk_bar : tkB textB (ByteArray.mk (List.toArray [32, 124, 32])) 31 = true := by kernel_rfl
theorem tk_end : numB textB 34 0 = true := by kernel_rfl
def cellQ (i q : Nat) : List Value := [.int .i64 (if 0 < q then xT i 0 else 0), .int .i64 (if 1 < q then xT i 1 else 0), .int .i64 (if 2 < q then xT i 2 else 0), .int .i64 (if 3 < q then xT i 3 else 0), .int .i64 1]
theorem cellQ_set {i q : Nat} (h : q < 4) : (cellQ i q).set q (.int .i64 (xT i q)) = cellQ i (q + 1) := by
 match q, h with
 | 0, _ => rfl
 | 1, _ => rfl
 | 2, _ => rfl
 | 3, _ => rfl
def cellT : Nat → List Value
 | 0 => []
 | i + 1 => cellT i ++ cellQ i 4
attribute [local instance] Classical.propDecidable
def ParP (h0 : List O) (o : Out) (st' : St) : Prop := ∃ a c, o = .ret (.tuple #[dV a 3 c 0, .int .i64 0]) ∧ Sub h0 st'.h ∧ h0.length ≤ st'.fl ∧ CrossP st'.h a 3 xT sT
def rdrC (pos : Int) (ok : Bool) : List Value := [.string textB, .int .i64 pos, .bool ok]
variable {E : Env} (hE : OE E)
include hE
theorem tk_ {h : List O} {R pos m : Nat} {s : ByteArray} (hr : h[R]? = some (.cells (rdrC pos true) 223 (some 0))) (hs : s.size = m) (hm : m ≤ 100) (hp : pos ≤ 35) (hb : tkB textB s pos = true) :
  DR E 182 [.pointer (some ⟨R, 0, none⟩), .string s] ⟨h, h.length⟩ (.ret (.bool true)) ⟨h.set R (.cells (rdrC ((pos + m : Nat) : Int) true) 223 (some 0)), R⟩ := by
 have hz := textB_size
 subst hs
 exact takeT_ hE hr (by omega) hm (by omega) hb
theorem tkF_ {h : List O} {R pos : Nat} {s : ByteArray} (hr : h[R]? = some (.cells (rdrC pos true) 223 (some 0))) (hm : s.size ≤ 100) (hp : pos ≤ 35) (hb : tkB textB s pos = false) :
  DR E 182 [.pointer (some ⟨R, 0, none⟩), .string s] ⟨h, h.length⟩ (.ret (.bool false)) ⟨h, h.length⟩ := by
 have hz := textB_size
 exact takeF_ hE hr (by omega) hm (by omega) hb
theorem parse_ (hk : kindD 3 xT sT 0 = 0) {h0 : List O} : DC E 129 [.string textB] ⟨h0, h0.length⟩ (ParP h0) := by
 refine hE.fnC (body := rb129) rfl ?_
 unfold rb129
 have hz := textB_size
 have hone : one1 (.string textB) = true := rfl
 have hcs : (Value.string textB).cells = #[.string textB] := rfl
 simp [hz, hcs, hone, wrN_at0, wrN_at, set_at0, set_at, List.append_assoc]
 refine DW_loop (fun kk fr st => ∃ (i : Nat) (h : List O) (v : Value), i + kk = 2 ∧ st = ⟨h, h0.length⟩ ∧ Sub h0 h ∧ AtB h h0.length (.cells [.slice none 0 0, .int .i64 0] 24 (some 0)) ∧ AtB h (h0.length + 1) (.cells (rdrC ((11 * i : Nat) : Int) true) 223 (some 0)) ∧ AtB h (h0.length + 2) (.cells [v, .int .i64 0] 24 (some 0)) ∧ OwnS h (h0.length + 3) v i (cellT i) 107 5 ∧ h0.length + 3 ≤ h.length ∧
  get fr 0 = .string textB ∧ get fr 2 = .pointer (some ⟨h0.length, 0, none⟩) ∧ get fr 4 = .pointer (some ⟨h0.length + 1, 0, none⟩) ∧ get fr 5 = .pointer (some ⟨h0.length + 2, 0, none⟩)) ?_ (k := 2) ?_
 ·rintro kk fr st ⟨i, h, v, hik, rfl, hsub, a0, a1, a2, hu, hl, g0, g2, g4, g5⟩
  obtain ⟨L, hL⟩ : ∃ L, L = h0.length := ⟨_, rfl⟩
  obtain ⟨R, hR⟩ : ∃ R, R = h0.length + 1 := ⟨_, rfl⟩
  obtain ⟨D, hD⟩ : ∃ D, D = h0.length + 2 := ⟨_, rfl⟩
  rw [← hL] at a0 g2
  rw [← hR] at a1 g4
  rw [← hD] at a2 g5
  unfold AtB at a0 a1 a2
  have a1' := a1
  simp only [rdrC] at a1'
  simp [g0, g2, g4, g5, rd_def, ↓a1', wrN_at0, set_at0]
  have hi3 : i < 3 := by omega
  have lR := (List.getElem?_eq_some_iff.1 a1).1
  have lD := (List.getElem?_eq_some_iff.1 a2).1
  obtain ⟨C, hC⟩ : ∃ C, C = h.length := ⟨_, rfl⟩
  obtain ⟨Hc, hHc⟩ : ∃ H, H = h ++ [O.cells [.int .i64 0, .int .i64 0, .int .i64 0, .int .i64 0, .int .i64 0] 107 (some 0)] := ⟨_, rfl⟩
  have lc : Hc.length = h.length + 1 := by rw [hHc]; simp
  have b1 : Hc[R]? = some (.cells (rdrC ((11 * i : Nat) : Int) true) 223 (some 0)) := by rw [hHc]; exact app_of a1 _
  have b2 : Hc[D]? = some (.cells [v, .int .i64 0] 24 (some 0)) := by rw [hHc]; exact app_of a2 _
  have b3 : Hc[C]? = some (O.cells [.int .i64 0, .int .i64 0, .int .i64 0, .int .i64 0, .int .i64 0] 107 (some 0)) := by rw [hHc, hC, app_at0]; rfl
  have t1 := tk_ hE (s := ⟨#[43]⟩) (m := 1) b1 rfl (by omega) (by omega) (List.all_eq_true.1 tk_plus i (List.mem_range.2 hi3))
  rw [← hHc, ← hC, show C + 1 = Hc.length by omega]
  refine (DC_of t1).2 ?_
  obtain ⟨H1, hH1⟩ : ∃ H, H = Hc.set R (.cells (rdrC ((11 * i + 1 : Nat) : Int) true) 223 (some 0)) := ⟨_, rfl⟩
  have c3 : H1[C]? = some (O.cells [.int .i64 0, .int .i64 0, .int .i64 0, .int .i64 0, .int .i64 0] 107 (some 0)) := by rw [hH1]; exact set_ne b3 (by omega)
  obtain ⟨H2, hH2⟩ : ∃ H, H = H1.set C (.cells (cellQ i 0) 107 (some 0)) := ⟨_, rfl⟩
  have hH2' : H2 = H1.set C (.cells [.int .i64 0, .int .i64 0, .int .i64 0, .int .i64 0, .int .i64 1] 107 (some 0)) := hH2
  have hj1 : joined ⟨Hc, h0.length⟩ ⟨H1, R⟩ = ⟨H1, h0.length⟩ := by
   simp only [joined]
   rw [if_pos (by omega)]
   congr 1
   omega
  have hmC : min h0.length C = h0.length := by omega
  rw [← hH1]
  simp [hj1, wrN_def, c3, ← hH2', hmC]
  have d1 : H2[R]? = some (.cells (rdrC ((11 * i + 1 : Nat) : Int) true) 223 (some 0)) := by rw [hH2, hH1]; exact set_ne (set_self b1) (by omega)
  have d2 : H2[C]? = some (.cells (cellQ i 0) 107 (some 0)) := by rw [hH2]; exact set_self c3
  have l2 : H2.length = h.length + 1 := by rw [hH2, hH1]; simp [lc]
  have K2 : ∀ (b : Nat) (o : O), h[b]? = some o → b ≠ R → H2[b]? = some o := fun b o hb hn => by
   have := (List.getElem?_eq_some_iff.1 hb).1
   rw [hH2, hH1, hHc]
   exact set_ne (set_ne (app_of hb _) hn) (by omega)
  refine DW_loop (fun kk' fr st => ∃ (q : Nat) (h' : List O), q + kk' = 4 ∧ st = ⟨h', h0.length⟩ ∧ h'.length = H2.length ∧ AtB h' R (.cells (rdrC ((11 * i + 1 + 2 * q : Nat) : Int) true) 223 (some 0)) ∧ AtB h' C (.cells (cellQ i q) 107 (some 0)) ∧ (∀ (b : Nat) (o : O), h[b]? = some o → b ≠ R → h'[b]? = some o) ∧
   get fr 0 = .string textB ∧ get fr 2 = .pointer (some ⟨L, 0, none⟩) ∧ get fr 4 = .pointer (some ⟨R, 0, none⟩) ∧ get fr 5 = .pointer (some ⟨D, 0, none⟩) ∧ get fr 6 = .pointer (some ⟨C, 0, none⟩) ∧ get fr 7 = .int .i64 q) ?_ (k := 4) ?_
  ·clear g0 g2 g4 g5
   rintro kk' fr st ⟨q, h', hqk, rfl, hl', e1, e2, hk', g0, g2, g4, g5, g6, g7⟩
   unfold AtB at e1 e2
   by_cases hq : q < 4
   ·have hw : IntKind.i64.wrap ((q : Int) + 1) = (q : Int) + 1 := by rw [w64_id] <;> omega
    have hq' : (q : Int) < 4 := by omega
    have tb := List.all_eq_true.1 (List.all_eq_true.1 tk_blank i (List.mem_range.2 hi3)) q (List.mem_range.2 hq)
    have tn := List.all_eq_true.1 (List.all_eq_true.1 tk_num i (List.mem_range.2 hi3)) q (List.mem_range.2 hq)
    obtain ⟨p, hp⟩ : ∃ p, p = 11 * i + 1 + 2 * q := ⟨_, rfl⟩
    obtain ⟨p1, hp1⟩ : ∃ p1, p1 = p + 1 := ⟨_, rfl⟩
    obtain ⟨p2, hp2⟩ : ∃ p2, p2 = p + 2 := ⟨_, rfl⟩
    rw [← hp] at e1 tb
    rw [show 11 * i + 2 + 2 * q = p1 by omega] at tn
    have t2 := tk_ hE (s := ⟨#[32]⟩) (m := 1) e1 rfl (by omega) (by omega) tb
    rw [← hp1] at t2
    have e1' := e1
    simp only [rdrC] at e1'
    obtain ⟨h5, hh5⟩ : ∃ H, H = h'.set R (.cells (rdrC (p1 : Int) true) 223 (some 0)) := ⟨_, rfl⟩
    rw [← hh5] at t2
    have l5 : h5.length = h'.length := by rw [hh5]; simp
    have f1 : h5[R]? = some (.cells (rdrC (p1 : Int) true) 223 (some 0)) := by rw [hh5]; exact set_self e1
    have f2 : h5[C]? = some (.cells (cellQ i q) 107 (some 0)) := by rw [hh5]; exact set_ne e2 (by omega)
    have f1' := f1
    simp only [rdrC] at f1'
    have hs5 : h5.set R (.cells (rdrC (p1 : Int) true) 223 (some 0)) = h5 := by
     apply List.ext_getElem?
     intro b
     by_cases hb : b = R
     ·subst hb; rw [f1]; exact set_self f1
     ·rw [List.getElem?_set_ne (fun e => hb e.symm)]
    simp only [rdrC] at hs5
    have t3 := numberB_ hE (h := h5) f1 (by rw [hz]; omega) tn
    obtain ⟨h6, hh6⟩ : ∃ H, H = h5.set R (.cells (rdrC (p2 : Int) true) 223 (some 0)) := ⟨_, rfl⟩
    have t3' : DR E 183 [.pointer (some ⟨R, 0, none⟩)] ⟨h5, h5.length⟩ (.ret (.int .i64 ((xT i q).toNat : Int))) ⟨h6, R⟩ := by
     rw [hh6, show ((p2 : Nat) : Int) = (p1 : Int) + 1 by omega]
     exact t3
    have f5 : h6[R]? = some (.cells (rdrC (p2 : Int) true) 223 (some 0)) := by rw [hh6]; exact set_self f1
    have f6 : h6[C]? = some (.cells (cellQ i q) 107 (some 0)) := by rw [hh6]; exact set_ne f2 (by omega)
    have l6 : h6.length = h'.length := by rw [hh6, List.length_set, l5]
    have K6 : ∀ (b : Nat) (o : O), h[b]? = some o → b ≠ R → h6[b]? = some o := fun b o hb hn => by rw [hh6, hh5]; exact set_ne (set_ne (hk' b o hb hn) hn) hn
    have hxq : ((xT i q).toNat : Int) = xT i q := by
     match i, hi3, q, hq with
     | 0, _, 0, _ => rfl
     | 0, _, 1, _ => rfl
     | 0, _, 2, _ => rfl
     | 0, _, 3, _ => rfl
     | 1, _, 0, _ => rfl
     | 1, _, 1, _ => rfl
     | 1, _, 2, _ => rfl
     | 1, _, 3, _ => rfl
     | 2, _, 0, _ => rfl
     | 2, _, 1, _ => rfl
     | 2, _, 2, _ => rfl
     | 2, _, 3, _ => rfl
    rw [hxq] at t3'
    have hj2 : ∀ x y : List O, R < x.length → joined ⟨x, h0.length⟩ ⟨y, R⟩ = ⟨y, h0.length⟩ := fun x y hx => by
     simp only [joined]
     rw [if_pos hx]
     congr 1
     omega
    have hj5 := hj2 h' h5 (by omega)
    have hj6 := hj2 h5 h6 (by omega)
    have hcl : (cellQ i q).length = 5 := rfl
    have hmR : min h0.length R = h0.length := by omega
    have hmC : min h0.length C = h0.length := by omega
    have hq5 : q + 1 ≤ 5 := by omega
    simp [g0, g2, g4, g5, g6, g7, hq', rd_def, ↓e1', DC_of t2, hj5, hmR, ↓f1', wrN_def, hs5, DC_of t3', hj6, f6, hcl, hq5, hw, hmC, cellQ_set hq]
    have hpc : ((p2 : Nat) : Int) = 11 * (i : Int) + 1 + 2 * ((q + 1 : Nat) : Int) := by omega
    rw [hpc] at f5
    exact ⟨kk' - 1, by omega, q + 1, by omega, by omega, set_ne f5 (by omega), set_self f6, fun b o hb hn => set_ne (K6 b o hb hn) (by have := (List.getElem?_eq_some_iff.1 hb).1; omega), by omega⟩
   ·obtain rfl : q = 4 := by omega
    have hc4 : cellQ i 4 = [.int .i64 (xT i 0), .int .i64 (xT i 1), .int .i64 (xT i 2), .int .i64 (xT i 3), .int .i64 1] := rfl
    obtain ⟨p, hp⟩ : ∃ p, p = 11 * i + 9 := ⟨_, rfl⟩
    rw [show 11 * i + 1 + 2 * 4 = p by omega] at e1
    have a2' := hk' _ _ a2 (by omega)
    have e2' := e2
    rw [hc4] at e2'
    have hu' : OwnS h' (h0.length + 3) v i (cellT i) 107 5 := hu.keep fun b s z1 z2 => by
     rcases hu.2 with ⟨w1, _⟩ | ⟨b2, s2, w1, w2, w3, _⟩
     ·rw [w1] at z1; cases z1
     ·rw [w1] at z1
      simp only [Value.slice.injEq, Option.some.injEq, Addr.mk.injEq] at z1
      exact hk' b _ z2 (by omega)
    obtain ⟨h7, hh7⟩ : ∃ H, H = h' ++ [O.cells [.int .i64 (xT i 0), .int .i64 (xT i 1), .int .i64 (xT i 2), .int .i64 (xT i 3), .int .i64 1] 107 (some 0)] := ⟨_, rfl⟩
    have hread : readSlice h7 5 1 (some ⟨h'.length, 0, none⟩) = some (cellQ i 4) := by rw [hh7, hc4]; simp [readSlice, rdN_at0]
    obtain ⟨b', h8, f8, happ, hb', hown, hf1, hf2, hL8, K8⟩ := append_S (fl := h0.length) (c := 1) (bytes := 40) (hu'.ext (by rw [hh7]; exact Ext.snoc _ _)) hread rfl rfl (by rw [hh7]; simp; omega) (by simp only [roomMax]; omega) (by omega)
    have hone7 : [Value.int .i64 (xT i 0), .int .i64 (xT i 1), .int .i64 (xT i 2), .int .i64 (xT i 3), .int .i64 1].all one1 = true := rfl
    have hvne : ∀ b, b < h0.length + 3 → ∀ n c, v ≠ .slice (some ⟨b, 0, none⟩) n c := fun b hb n c e => by
     rcases hu.2 with ⟨w1, _⟩ | ⟨b2, s2, w1, w2, _⟩
     ·rw [w1] at e; cases e
     ·rw [w1] at e
      simp only [Value.slice.injEq, Option.some.injEq, Addr.mk.injEq] at e
      omega
    have k8 : ∀ (b : Nat) (o : O), b < h0.length + 3 → h'[b]? = some o → h8[b]? = some o := fun b o hb ho => K8 b o (by rw [hh7]; exact app_of ho _) (hvne b hb)
    have m2 := k8 D _ (by omega) a2'
    have m1 := k8 R _ (by omega) e1
    obtain rfl : f8 = h0.length := by omega
    obtain ⟨v', hv'⟩ : ∃ v', v' = Value.slice (some ⟨b', 0, none⟩) (i + 1) (i + 1) := ⟨_, rfl⟩
    rw [← hv'] at happ hown
    obtain ⟨h9, hh9⟩ : ∃ H, H = h8.set D (.cells [v', .int .i64 0] 24 (some 0)) := ⟨_, rfl⟩
    have l7 : h7.length = h'.length + 1 := by rw [hh7]; simp
    have l9 : h9.length = h8.length := by rw [hh9]; simp
    have n1 : h9[R]? = some (.cells (rdrC (p : Int) true) 223 (some 0)) := by rw [hh9]; exact set_ne m1 (by omega)
    have n2 : h9[D]? = some (.cells [v', .int .i64 0] 24 (some 0)) := by rw [hh9]; exact set_self m2
    have hone' : one1 v' = true := by rw [hv']; rfl
    have hcs' : v'.cells = #[v'] := by rw [hv']; rfl
    have hmD : min h0.length D = h0.length := by omega
    have hmR : min h0.length R = h0.length := by omega
    have hj2 : ∀ x y : List O, R < x.length → joined ⟨x, h0.length⟩ ⟨y, R⟩ = ⟨y, h0.length⟩ := fun x y hx => by
     simp only [joined]
     rw [if_pos hx]
     congr 1
    have k9 : ∀ (b : Nat) (o : O), h[b]? = some o → b < h0.length + 3 → b ≠ R → b ≠ D → h9[b]? = some o := fun b o ho hb hn hn2 => by rw [hh9]; exact set_ne (k8 b o hb (hk' b o ho hn)) hn2
    have own9 : ∀ y, y < h0.length + 3 → ∀ o', OwnS (h9.set y o') (h0.length + 3) v' (i + 1) (cellT (i + 1)) 107 5 := fun y hy o' => hown.keep fun b s z1 z2 => by
     rw [hv'] at z1
     simp only [Value.slice.injEq, Option.some.injEq, Addr.mk.injEq] at z1
     rw [hh9]
     exact set_ne (set_ne z2 (by omega)) (by omega)
    by_cases hi2 : i < 2
    ·have t4 := tk_ hE (s := ⟨#[59, 32]⟩) (m := 2) n1 rfl (by omega) (by omega) (by rw [hp]; exact List.all_eq_true.1 tk_semi i (List.mem_range.2 hi2))
     obtain ⟨p2, hp2⟩ : ∃ p2, p2 = p + 2 := ⟨_, rfl⟩
     rw [← hp2] at t4
     obtain ⟨h10, hh10⟩ : ∃ H, H = h9.set R (.cells (rdrC (p2 : Int) true) 223 (some 0)) := ⟨_, rfl⟩
     rw [← hh10] at t4
     have hj10 := hj2 h9 h10 (by omega)
     simp [g0, g2, g4, g5, g6, g7, rd_def, ↓a2', rdN_def, ↓e2', ← hh7, happ, wrN_def, m2, hone', hcs', ← hh9, hmD, DC_of t4, hj10]
     have hpc : ((p2 : Nat) : Int) = 11 * ((i + 1 : Nat) : Int) := by omega
     refine ⟨kk - 1, by omega, i + 1, by omega, ?_, ?_, ?_, v', ?_, ?_, ?_⟩
     ·intro b o hb
      have := (List.getElem?_eq_some_iff.1 hb).1
      rw [hh10]
      exact set_ne (k9 b o (hsub b o hb) (by omega) (by omega) (by omega)) (by omega)
     ·rw [hh10, ← hL]
      exact set_ne (k9 _ _ a0 (by omega) (by omega) (by omega)) (by omega)
     ·rw [hh10, ← hR, ← hpc]
      exact set_self n1
     ·rw [hh10, ← hD]
      exact set_ne n2 (by omega)
     ·rw [hh10]
      exact own9 _ (by omega) _
     ·rw [hh10, List.length_set]
      omega
    ·obtain rfl : i = 2 := by omega
     have t4 := tkF_ hE (s := ⟨#[59, 32]⟩) n1 (by decide) (by omega) (by rw [hp]; exact tk_semi2)
     have t5 := tk_ hE (s := ⟨#[32, 124, 32]⟩) (m := 3) n1 rfl (by omega) (by omega) (by rw [hp]; exact tk_bar)
     obtain ⟨p2, hp2⟩ : ∃ p2, p2 = p + 3 := ⟨_, rfl⟩
     rw [← hp2] at t5
     obtain ⟨h10, hh10⟩ : ∃ H, H = h9.set R (.cells (rdrC (p2 : Int) true) 223 (some 0)) := ⟨_, rfl⟩
     rw [← hh10] at t5
     have hj9 : joined ⟨h9, h0.length⟩ ⟨h9, h9.length⟩ = ⟨h9, h0.length⟩ := joined_mk _ _
     have hj10 := hj2 h9 h10 (by omega)
     have n1' := n1
     simp only [rdrC] at n1'
     have r1 : h10[R]? = some (.cells (rdrC (p2 : Int) true) 223 (some 0)) := by rw [hh10]; exact set_self n1
     have r1' := r1
     simp only [rdrC] at r1'
     have hs10 : h10.set R (.cells (rdrC (p2 : Int) true) 223 (some 0)) = h10 := by
      apply List.ext_getElem?
      intro b
      by_cases hb : b = R
      ·subst hb; rw [r1]; exact set_self r1
      ·rw [List.getElem?_set_ne (fun e => hb e.symm)]
     simp only [rdrC] at hs10
     have t6 := numberB_ hE (h := h10) r1 (by rw [hz]; omega) (show numB textB p2 0 = true by rw [hp2, hp]; exact tk_end)
     obtain ⟨h11, hh11⟩ : ∃ H, H = h10.set R (.cells (rdrC ((35 : Nat) : Int) true) 223 (some 0)) := ⟨_, rfl⟩
     have t6' : DR E 183 [.pointer (some ⟨R, 0, none⟩)] ⟨h10, h10.length⟩ (.ret (.int .i64 0)) ⟨h11, R⟩ := by
      rw [hh11, show ((35 : Nat) : Int) = (p2 : Int) + 1 by omega]
      exact t6
     have l10 : h10.length = h9.length := by rw [hh10]; simp
     have hj11 := hj2 h10 h11 (by omega)
     have u1 : h11[R]? = some (.cells [.string textB, .int .i64 35, .bool true] 223 (some 0)) := by rw [hh11]; exact set_self r1
     have u2 : h11[D]? = some (.cells [v', .int .i64 0] 24 (some 0)) := by rw [hh11, hh10]; exact set_ne (set_ne n2 (by omega)) (by omega)
     have hsD : h11.set D (.cells [v', .int .i64 0] 24 (some 0)) = h11 := by
      apply List.ext_getElem?
      intro b
      by_cases hb : b = D
      ·subst hb; rw [u2]; exact set_self u2
      ·rw [List.getElem?_set_ne (fun e => hb e.symm)]
     have u0 : h11[L]? = some (.cells [.slice none 0 0, .int .i64 0] 24 (some 0)) := by rw [hh11, hh10]; exact set_ne (set_ne (k9 _ _ a0 (by omega) (by omega) (by omega)) (by omega)) (by omega)
     have l11 : h11.length = h9.length := by rw [hh11, List.length_set, l10]
     obtain ⟨s8, own8⟩ : ∃ s, h8[b']? = some (.cells (cellT 3) 107 (some s)) := by
      rcases hown.2 with ⟨w1, _⟩ | ⟨b2, s2, w1, w2, w3, _⟩
      ·rw [hv'] at w1; cases w1
      ·rw [hv'] at w1
       simp only [Value.slice.injEq, Option.some.injEq, Addr.mk.injEq] at w1
       obtain ⟨⟨rfl, _⟩, _⟩ := w1
       exact ⟨s2, w3⟩
     have own11 : h11[b']? = some (.cells (cellT 3) 107 (some s8)) := by
      rw [hh11, hh10, hh9]
      exact set_ne (set_ne (set_ne own8 (by omega)) (by omega)) (by omega)
     have hx11 : CrossP h11 (some ⟨b', 0, none⟩) 3 xT sT := ⟨b', 0, fun _ => rfl, fun j hj => by
      rw [rdN_def, own11]
      match j, hj with
      | 0, _ => rfl
      | 1, _ => rfl
      | 2, _ => rfl⟩
     have hck := checkR_ hE (c := 3) (L := 0) hx11
     rw [hk] at hck
     simp [dV] at hck
     subst hv'
     have hmL : min h0.length L = h0.length := by omega
     simp [g0, g2, g4, g5, g6, g7, rd_def, ↓a2', rdN_def, ↓e2', ← hh7, happ, wrN_def, m2, ← hh9, hmD, DC_of t4, hj9, ↓n1', DC_of t5, hj10, ↓r1', hs10, hmR, DC_of t6', hj11, ↓u1, ↓u2, hsD, hz, DC_of hck, ↓u0, hmL]
     have hself : (h11.set L (O.cells [.slice (some ⟨b', 0, none⟩) 3 3, .int .i64 0] 24 (some 0)))[L]? = some (O.cells [.slice (some ⟨b', 0, none⟩) 3 3, .int .i64 0] 24 (some 0)) := set_self u0
     simp [↓hself]
     have hP : ParP h0 (.ret (.tuple #[dV (some ⟨b', 0, none⟩) 3 3 0, .int .i64 0])) ⟨h11.set L (O.cells [.slice (some ⟨b', 0, none⟩) 3 3, .int .i64 0] 24 (some 0)), h0.length⟩ := by
      refine ⟨_, _, rfl, fun b o hb => ?_, Nat.le_refl _, b', 0, fun _ => rfl, fun j hj => ?_⟩
      ·have := (List.getElem?_eq_some_iff.1 hb).1
       rw [hh11, hh10]
       exact set_ne (set_ne (set_ne (k9 b o (hsub b o hb) (by omega) (by omega) (by omega)) (by omega)) (by omega)) (by omega)
      ·rw [rdN_def, set_ne own11 (by omega)]
       match j, hj with
       | 0, _ => rfl
       | 1, _ => rfl
       | 2, _ => rfl
     unfold pairQ back
     rw [if_neg (by simp [Out.scalar, scalar, flat1, flat])]
     exact hP
  ·exact ⟨0, H2, by omega, rfl, rfl, d1, d2, K2, by simp [g0, g2, g4, g5]⟩
 ·refine ⟨0, _, .slice none 0 0, rfl, rfl, (Sub.refl h0).app _, ?_, ?_, ?_, OwnS.nil _ _ _ _, by simp, by simp⟩
  ·unfold AtB; rw [app_at0]; rfl
  ·unfold AtB; rw [app_at]; rfl
  ·unfold AtB; rw [app_at]; rfl
end Go.Proofs.Ytjlkndkedknocaa
namespace Go.Proofs.Ytjlkndkedknocaa
open Go Go.Ai
theorem c57_0a : cmpT 43 (lcA 57 0) = some ra57_0 := by kernel_rfl
theorem c57_0b : cmpT 43 (lcB 57 0) = some rl57_0 := by kernel_rfl
theorem c70_0a : cmpT 98 (lcA 70 0) = some ra70_0 := by kernel_rfl
theorem c70_0b : cmpT 98 (lcB 70 0) = some rl70_0 := by kernel_rfl
theorem c219_0a : cmpT 46 (lcA 219 0) = some ra219_0 := by kernel_rfl
theorem c219_0b : cmpT 46 (lcB 219 0) = some rl219_0 := by kernel_rfl
theorem E0_cmp : E0.cmp = cmpT := by unfold E0; rfl
theorem E0_S (f : FuncId) : E0.S f = none := by unfold E0; rfl
theorem E0_OE : OE E0 := ⟨fun f rf h => h, fun f h _ => E0_S f, fun k => E0_S _, by rw [E0_cmp]; exact c57_0a, by rw [E0_cmp]; exact c57_0b, by rw [E0_cmp]; exact c70_0a, by rw [E0_cmp]; exact c70_0b, by rw [E0_cmp]; exact c219_0a, by rw [E0_cmp]; exact c219_0b⟩
theorem OE.sum148 {E : Env} (h : OE E) : OE (withK E 4 148) := ⟨h.F, fun f hf h148 => (if_neg h148).trans (h.S f hf h148), fun k => (if_neg (Nat.ne_of_gt (Nat.lt_of_lt_of_le (show 148 < yB by decide) (Nat.le_add_right _ _)))).trans (h.Y k), h.c57_0a, h.c57_0b, h.c70_0a, h.c70_0b, h.c219_0a, h.c219_0b⟩
end Go.Proofs.Ytjlkndkedknocaa
namespace Go.Proofs.Ytjlkndkedknocaa
open Go Go.Ai
def seenN : Option (Out × St) → Option Int
 | some (.ret (.int _ n), _) => some n
 | _ => none
theorem seenN_some {x : Option (Out × St)} {n : Int} (h : seenN x = some n) : ∃ k st, x = some (.ret (.int k n), st) := by
 unfold seenN at h
 split at h
 ·obtain rfl := Option.some.inj h; exact ⟨_, _, rfl⟩
 ·cases h
noncomputable def trefH : List O := [.cells (cellT 3) 107 (some 0)]
set_option maxRecDepth 100000 in
theorem tref_run : seenN (call E0 400 87 [dV (some ⟨0, 0, none⟩) 3 3 0] ⟨trefH, 1⟩) = some 0 := by kernel_rfl
theorem trefP : CrossP trefH (some ⟨0, 0, none⟩) 3 xT sT := ⟨0, 0, fun _ => rfl, fun i hi => by
 match i, hi with
 | 0, _ => rfl
 | 1, _ => rfl
 | 2, _ => rfl⟩
theorem kind_T : kindD 3 xT sT 0 = 0 := by
 obtain ⟨k, st, h⟩ := seenN_some tref_run
 have h1 := check_ E0_OE (c := 3) (L := 0) trefP
 have h3 := (DR.unique h1 ⟨400, h⟩).1
 simp only [Out.ret.injEq, Value.int.injEq] at h3
 exact h3.2
end Go.Proofs.Ytjlkndkedknocaa
namespace Go.Ai
attribute [local instance] Classical.propDecidable
theorem appendEN {el : TypeId} {size bytes b o n c fl : Nat} {H : List O} {l : List Value} (hr : rdN H b o (n * size) = some l) (hn : 0 < n) (hs : 0 < size) (hall : l.all one1 = true) (hroom : n * bytes ≤ roomMax) :
  appendV el size bytes emptyS (.slice (some ⟨b, o, none⟩) n c) ⟨H, fl⟩ = some (.slice (some ⟨H.length, 0, none⟩) n n, ⟨H ++ [.cells l el (some size)], fl⟩) := by
 have hns : ¬ n * size = 0 := by
  have := Nat.mul_pos hn hs; omega
 have hrd : readSlice H size n (some ⟨b, o, none⟩) = some l := by simp only [readSlice]; rw [if_neg hns]; exact hr
 simp only [appendV, emptyS, hrd, bind, Option.bind_some, appendCells]
 rw [if_neg (by omega), if_neg (by omega), if_pos ⟨by rw [Nat.zero_add]; exact hroom, hall⟩]
 simp [readSlice, kill]
theorem append_fit {el : TypeId} {bytes b k c xb fl : Nat} {H : List O} {cs : List Value} {e : TypeId} {s : Nat} {v : Value} (hb : H[b]? = some (.cells cs e (some s))) (hk : k + 1 ≤ c) (hc : k + 1 ≤ cs.length) (hv : one1 v = true) (hx : rdN H xb 0 1 = some [v]) :
  appendV el 1 bytes (.slice (some ⟨b, 0, none⟩) k c) (.slice (some ⟨xb, 0, none⟩) 1 1) ⟨H, fl⟩ = some (.slice (some ⟨b, 0, none⟩) (k + 1) c, ⟨H.set b (.cells (cs.set k v) e (some s)), min fl b⟩) := by
 have hrd : readSlice H 1 1 (some ⟨xb, 0, none⟩) = some [v] := by simp [readSlice, hx]
 simp only [appendV, hrd, bind, Option.bind_some, appendCells]
 rw [if_neg (by omega), if_pos (by omega)]
 simp [wrN, hb, hc, hv]
def visL (n : Nat) : Nat → List Int → List (List Int)
 | 0, f => [f]
 | m + 1, f => (List.range n).flatMap fun (x : Nat) => if (x : Int) ∈ f then [] else visL n m (f ++ [(x : Int)])
def visI (n m : Nat) (f : List Int) (i : Nat) : List (List Int) := (List.range i).flatMap fun (x : Nat) => if (x : Int) ∈ f then [] else visL n m (f ++ [(x : Int)])
theorem visI_succ (n m : Nat) (f : List Int) (i : Nat) : visI n m f (i + 1) = visI n m f i ++ (if (i : Int) ∈ f then [] else visL n m (f ++ [(i : Int)])) := by
 unfold visI
 rw [List.range_succ, List.flatMap_append]
 simp
theorem visL_le (n : Nat) : ∀ m f, (visL n m f).length ≤ n ^ m := by
 intro m
 induction m with
 | zero => intro f; simp [visL]
 | succ m ih =>
  intro f
  have key : ∀ i, ((List.range i).flatMap fun (x : Nat) => if (x : Int) ∈ f then [] else visL n m (f ++ [(x : Int)])).length ≤ i * n ^ m := by
   intro i
   induction i with
   | zero => simp
   | succ i ih2 =>
    rw [List.range_succ, List.flatMap_append, List.length_append, Nat.succ_mul]
    have h2 : ([i].flatMap fun x : Nat => if (x : Int) ∈ f then [] else visL n m (f ++ [(x : Int)])).length ≤ n ^ m := by
     simp only [List.flatMap_cons, List.flatMap_nil, List.append_nil]
     split
     ·simp
     ·exact ih _
    omega
  have := key n
  rw [Nat.pow_succ, Nat.mul_comm]
  exact this
theorem visI_le (n m : Nat) (f : List Int) (i : Nat) : (visI n m f i).length ≤ i * n ^ m := by
 induction i with
 | zero => simp [visI]
 | succ i ih =>
  rw [visI_succ, List.length_append, Nat.succ_mul]
  have h2 : (if (i : Int) ∈ f then [] else visL n m (f ++ [(i : Int)])).length ≤ n ^ m := by
   split
   ·simp
   ·exact visL_le _ _ _
  omega
theorem take_nth {buf f : List Int} {k : Nat} (h : buf.take k = f) (hk : f.length = k) {i : Nat} (hi : i < k) : nth buf i = nth f i := by
 rw [← h]
 unfold nth
 rw [List.getD_eq_getElem?_getD, List.getD_eq_getElem?_getD, List.getElem?_take, if_pos hi]
end Go.Ai
namespace Go.Proofs.Ytjlkndkedknocaa
open Go Go.Ai
attribute [local instance] Classical.propDecidable
variable {E : Env} (hE : OE E)
include hE
theorem indexI2_ {h : List O} {v : Value} {xs : List Int} {y : Int} (hv : Ints h v xs) (hlt : xs.length < 1000000) :
  DR E 211 [v, .int .i64 y] ⟨h, h.length⟩ (.ret (.int .i64 (firstI (fun j => decide (nth xs j = y)) xs.length))) ⟨h, h.length⟩ := by
 refine hE.fn (body := rb211) rfl ?_
 unfold rb211
 obtain ⟨a, b, o, c, rfl, ha, hrd⟩ := hv.at
 simp
 refine DW_loop (fun kk fr st => ∃ (i : Nat), i + kk = xs.length ∧ st = ⟨h, h.length⟩ ∧ (∀ j, j < i → nth xs j ≠ y) ∧ get fr 0 = .slice a xs.length c ∧ get fr 1 = .int .i64 y ∧ get fr 7 = .int .i64 xs.length ∧ get fr 8 = .int .i64 i) ?_ (k := xs.length) ?_
 ·rintro kk fr st ⟨i, hik, rfl, hm, g0, g1, g7, g8⟩
  by_cases hi : i < xs.length
  ·have hw : IntKind.i64.wrap ((i : Int) + 1) = (i : Int) + 1 := by rw [w64_id] <;> omega
   obtain rfl := ha (by omega)
   have hr := hrd i hi
   by_cases hy : nth xs i = y
   ·have hf : firstI (fun j => decide (nth xs j = y)) xs.length = i := firstI_found hi (by simp [hy]) (fun j hj => by simp [hm j hj])
    rw [hy] at hr
    simp [g0, g1, g7, g8, hi, rd_def, hr, endK_ret, hf]
   ·have hy' : ¬ y = nth xs i := fun e => hy e.symm
    simp [g0, g1, g7, g8, hi, rd_def, hr, hy', hw]
    refine ⟨kk - 1, by omega, i + 1, by omega, fun j hj => ?_, by omega⟩
    by_cases e : j = i
    ·rw [e]; exact hy
    ·exact hm j (by omega)
  ·have hin : i = xs.length := by omega
   subst hin
   have hf : firstI (fun j => decide (nth xs j = y)) xs.length = -1 := firstI_none (fun j hj => by simp [hm j hj])
   simp [g0, g1, g7, g8, endK_ret, hf]
 ·exact ⟨0, by omega, rfl, fun j h => by omega, by simp⟩
theorem containsI_ {h : List O} {v : Value} {xs : List Int} {y : Int} (hv : Ints h v xs) (hlt : xs.length < 1000000) :
  DR E 187 [v, .int .i64 y] ⟨h, h.length⟩ (.ret (.bool (decide (y ∈ xs)))) ⟨h, h.length⟩ := by
 refine hE.fn (body := rb187) rfl ?_
 unfold rb187
 have hi := indexI2_ hE (y := y) hv hlt
 have hiff : (0 ≤ firstI (fun j => decide (nth xs j = y)) xs.length) ↔ y ∈ xs := by
  rcases firstI_cases (fun j => decide (nth xs j = y)) xs.length with ⟨i, h1, h2, _, h3⟩ | ⟨h1, h2⟩
  ·rw [h3]
   have : nth xs i = y := by simpa using h2
   exact ⟨fun _ => this ▸ nth_mem h1, fun _ => by omega⟩
  ·rw [h2]
   refine ⟨fun h => by omega, fun h => ?_⟩
   obtain ⟨j, hj, rfl⟩ := List.getElem_of_mem h
   have := h1 j hj
   rw [nth_eq hj] at this
   simp at this
 simp [DC_of hi, endK_ret, hiff]
theorem clone_ {h : List O} {b n c : Nat} {f : List Int} (hr : rdN h b 0 n = some (intsC f)) (hn : 0 < n) (hs : n ≤ 100000) :
  DR E 179 [.slice (some ⟨b, 0, none⟩) n c] ⟨h, h.length⟩ (.ret (.slice (some ⟨h.length, 0, none⟩) n n)) ⟨h ++ [.cells (intsC f) 3 (some 1)], h.length⟩ := by
 refine hE.fn (body := rb179) rfl ?_
 unfold rb179
 have hall : (intsC f).all one1 = true := by simp [intsC]
 have happ := appendEN (el := 3) (size := 1) (bytes := 8) (c := c) (fl := h.length) (by rw [Nat.mul_one]; exact hr) hn (by omega) hall (by simp only [roomMax]; omega)
 simp [happ, endK_ret]
 unfold pairQ back
 rw [if_neg (by simp [Out.scalar, scalar, flat1, flat])]
 exact ⟨rfl, rfl⟩
end Go.Proofs.Ytjlkndkedknocaa
namespace Go.Proofs.Ytjlkndkedknocaa
open Go Go.Ai
attribute [local instance] Classical.propDecidable
def PrmI (h : List O) (lo n : Nat) (vs : List Value) (Ls : List (List Int)) : Prop :=
 ∀ q, q < Ls.length → ∃ b, vs[q]? = some (.slice (some ⟨b, 0, none⟩) n n) ∧ lo ≤ b ∧ h[b]? = some (.cells (intsC (nthR Ls q)) 3 (some 1))
structure VsI (h : List O) (lo n B po k : Nat) (f : List Int) (Ls : List (List Int)) : Prop where
 buf : ∃ buf, h[B]? = some (.cells (intsC buf) 3 (some 0)) ∧ buf.length = n ∧ buf.take k = f
 out : ∃ ov vs, h[po]? = some (.cells [ov] 48 (some 0)) ∧ OwnS h lo ov Ls.length vs 34 1 ∧ PrmI h lo n vs Ls
 lo_ : lo ≤ h.length
def VisP (h : List O) (base lo n B po k : Nat) (f : List Int) (Ls : List (List Int)) (st' : St) : Prop :=
 base ≤ st'.fl ∧ h.length ≤ st'.h.length ∧ (∀ (b : Nat) (o : O), b < lo → h[b]? = some o → b ≠ po → b ≠ B → st'.h[b]? = some o) ∧ VsI st'.h lo n B po k f Ls
def visV (pn po pv : Nat) : Value := .func (.func 186) #[] #[.pointer (some ⟨pn, 0, none⟩), .pointer (some ⟨po, 0, none⟩), .pointer (some ⟨pv, 0, none⟩)]
theorem take_set_snoc {buf f : List Int} {k : Nat} {x : Int} (h : buf.take k = f) (hk : k < buf.length) : (buf.set k x).take (k + 1) = f ++ [x] := by
 apply List.ext_getElem?
 intro i
 rw [List.getElem?_take]
 have hf : f.length = k := by rw [← h, List.length_take]; omega
 by_cases hi : i < k
 ·rw [if_pos (by omega), List.getElem?_set_ne (by omega), List.getElem?_append_left (by omega), ← h, List.getElem?_take, if_pos hi]
 ·by_cases e : i = k
  ·rw [if_pos (by omega), e, List.getElem?_set_self hk, List.getElem?_append_right (by omega), hf]; simp
  ·rw [if_neg (by omega), List.getElem?_eq_none (by simp; omega)]
variable {E : Env} (hE : OE E)
include hE
theorem visit_ {n lo base B pn po pv : Nat} (hn : n ≤ 6) (h1 : base ≤ B) (h2 : base ≤ po) (h3 : base ≤ lo) (h4 : B < lo) (h5 : po < lo) (h6 : pn < lo) (h7 : pv < lo) (h8 : po ≠ B) (h9 : pn ≠ B) (h10 : pn ≠ po) (h11 : pv ≠ B) (h12 : pv ≠ po) :
  ∀ (m : Nat) {h : List O} {f : List Int} {Ls : List (List Int)}, f.length + m = n → (∀ y ∈ f, 0 ≤ y ∧ y < n) → 0 < n → Ls.length + n ^ m ≤ 1000000 →
   h[pn]? = some (.cells [.int .i64 n] 3 (some 0)) → h[pv]? = some (.cells [visV pn po pv] 226 (some 0)) → VsI h lo n B po f.length f Ls →
   DC E 186 [.slice (some ⟨B, 0, none⟩) f.length n, .pointer (some ⟨pn, 0, none⟩), .pointer (some ⟨po, 0, none⟩), .pointer (some ⟨pv, 0, none⟩)] ⟨h, h.length⟩ fun o st' => o = .ret (.tuple #[]) ∧ VisP h base lo n B po f.length f (Ls ++ visL n m f) st' := by
 intro m
 induction m with
 | zero =>
  intro h f Ls hfm hf hn0 hbd e1 e2 hI
  refine hE.fnC (body := rb186) rfl ?_
  unfold rb186
  obtain ⟨buf, hb, hbl, hbt⟩ := hI.buf
  obtain ⟨ov, vs, ho, hov, hP⟩ := hI.out
  have hlo := hI.lo_
  have hfn : f.length = n := by omega
  have hbf : buf = f := by rw [← hbt, hfn, ← hbl, List.take_length]
  subst hbf
  have hrd : rdN h B 0 n = some (intsC buf) := by
   rw [rdN_def, hb, rdNO_cells, if_pos (by simp; omega)]
   simp [List.take_of_length_le, hbl]
  have hcl := clone_ hE (c := n) hrd hn0 (by omega)
  obtain ⟨H2, hH2⟩ : ∃ H2, H2 = h ++ [O.cells (intsC buf) 3 (some 1)] := ⟨_, rfl⟩
  have hl2 : H2.length = h.length + 1 := by rw [hH2]; simp
  have hE2 : Ext h H2 := by rw [hH2]; exact Ext.snoc _ _
  have hin : H2[h.length]? = some (O.cells (intsC buf) 3 (some 1)) := by rw [hH2, app_at0]; rfl
  have hu2 : OwnS (H2 ++ [.cells [.slice (some ⟨h.length, 0, none⟩) n n] 34 (some 0)]) lo ov Ls.length vs 34 1 := hov.ext (hE2.trans (Ext.snoc _ _))
  have hread : readSlice (H2 ++ [.cells [.slice (some ⟨h.length, 0, none⟩) n n] 34 (some 0)]) 1 1 (some ⟨H2.length, 0, none⟩) = some [.slice (some ⟨h.length, 0, none⟩) n n] := by simp [readSlice, rdN_at0]
  obtain ⟨b', H4, f4, happ, hb', hown, hf1, hf2, hL4, K4⟩ := append_S (fl := h.length) (c := 1) (bytes := 24) hu2 hread (by simp) (by simp) (by simp; omega) (by simp only [roomMax]; omega) (by omega)
  have hnei : ∀ (b : Nat) (cs : List Value) (ow : Option Nat), H2[b]? = some (.cells cs 3 ow) → ∀ n' c', ov ≠ .slice (some ⟨b, 0, none⟩) n' c' := fun b cs ow hb n' c' e => by
   rcases hov.2 with ⟨h1, _⟩ | ⟨b2, s2, h1, h2, h3, _⟩
   ·rw [e] at h1; cases h1
   ·rw [e] at h1
    simp only [Value.slice.injEq, Option.some.injEq, Addr.mk.injEq] at h1
    obtain ⟨l, hl⟩ := hE2
    rw [h1.1.1, hl, app_of h3] at hb
    cases hb
  have hneH : ∀ (b : Nat), b < lo → ∀ n' c', ov ≠ .slice (some ⟨b, 0, none⟩) n' c' := fun b hb n' c' e => by
   rcases hov.2 with ⟨h1, _⟩ | ⟨b2, s2, h1, h2, h3, _⟩
   ·rw [e] at h1; cases h1
   ·rw [e] at h1
    simp only [Value.slice.injEq, Option.some.injEq, Addr.mk.injEq] at h1
    omega
  have kB : ∀ (b : Nat) (o : O), b < lo → h[b]? = some o → H4[b]? = some o := fun b o hbl hb => by
   obtain ⟨l, hl⟩ := hE2
   exact K4 b o (by rw [hl, List.append_assoc]; exact app_of hb _) (hneH b hbl)
  have k4 := kB _ _ h5 ho
  have happ2 := happ
  rw [hl2] at happ2
  simp only [hH2, List.append_assoc, List.cons_append, List.nil_append] at happ2
  rw [hfn]
  simp [rd_def, e1, ho, DC_of hcl, bit, List.append_assoc, happ2, wrN_def, k4, endK_ret]
  unfold pairQ back
  rw [if_neg (by simp; omega)]
  refine ⟨rfl, by simp only; omega, ?_, fun b o hbl hb hn1 hn2 => set_ne (kB b o hbl hb) hn1, ⟨buf, set_ne (kB _ _ h4 hb) (Ne.symm h8), hbl, by rw [← hfn]; exact hbt⟩, ?_, by simp at hL4 ⊢; omega⟩
  ·simp at hL4 ⊢; omega
  ·have hlenL : (Ls ++ visL n 0 buf).length = Ls.length + 1 := by simp [visL]
   refine ⟨_, vs ++ [.slice (some ⟨h.length, 0, none⟩) n n], set_self k4, ?_, fun q hq => ?_⟩
   ·rw [hlenL]
    exact hown.keep fun b s e1 e2 => set_ne e2 (by
     simp at e1 hb'
     omega)
   ·have hvl : vs.length = Ls.length := by have := hov.1; omega
    by_cases e : q < Ls.length
    ·obtain ⟨b, q1, q2, q3⟩ := hP q e
     have hq3 : H2[b]? = some (O.cells (intsC (nthR Ls q)) 3 (some 1)) := by rw [hH2]; exact app_of q3 _
     have hnq : nthR (Ls ++ visL n 0 buf) q = nthR Ls q := by simp [nthR, List.getElem?_append_left e]
     rw [hnq]
     exact ⟨b, by rw [List.getElem?_append_left (by omega)]; exact q1, q2, set_ne (K4 b _ (app_of hq3 _) (hnei b _ _ hq3)) (by omega)⟩
    ·have hqe : q = Ls.length := by omega
     have hnq : nthR (Ls ++ visL n 0 buf) q = buf := by simp [nthR, hqe, visL]
     rw [hnq]
     exact ⟨h.length, by rw [List.getElem?_append_right (by omega), hvl, hqe]; simp, by omega, set_ne (K4 _ _ (app_of hin _) (hnei _ _ _ hin)) (by omega)⟩
 | succ m ih =>
  intro h f Ls hfm hf hn0 hbd e1 e2 hI
  refine hE.fnC (body := rb186) rfl ?_
  unfold rb186
  have hlo := hI.lo_
  have hk : f.length < n := by omega
  have hkn : ¬ f.length = n := by omega
  have hkn' : ¬ (f.length : Int) = n := by omega
  simp [rd_def, e1, hkn, hkn']
  have hvl : visL n (m + 1) f = visI n m f n := rfl
  rw [hvl]
  refine DW_loop (fun kk fr st => ∃ (i : Nat) (h' : List O) (f' : Nat), i + kk = n ∧ st = ⟨h', f'⟩ ∧ base ≤ f' ∧ ((h' = h ∧ f' = h.length ∧ visI n m f i = []) ∨ f' < h.length) ∧ h.length ≤ h'.length ∧ (∀ (b : Nat) (o : O), b < lo → h[b]? = some o → b ≠ po → b ≠ B → h'[b]? = some o) ∧ VsI h' lo n B po f.length f (Ls ++ visI n m f i) ∧
   get fr 0 = .slice (some ⟨B, 0, none⟩) f.length n ∧ get fr 1 = .pointer (some ⟨pn, 0, none⟩) ∧ get fr 2 = .pointer (some ⟨po, 0, none⟩) ∧ get fr 3 = .pointer (some ⟨pv, 0, none⟩) ∧ get fr 15 = .int .i64 n ∧ get fr 16 = .int .i64 i) ?_ (k := n) ?_
  ·rintro kk fr st ⟨i, h', f', hik, rfl, hbf, hfl, hlen, hkeep, hI', g0, g1, g2, g3, g15, g16⟩
   obtain ⟨buf, hb, hbl, hbt⟩ := hI'.buf
   have hlo' := hI'.lo_
   by_cases hi : i < n
   ·have hw : IntKind.i64.wrap ((i : Int) + 1) = (i : Int) + 1 := by rw [w64_id] <;> omega
    have hInt : Ints h' (.slice (some ⟨B, 0, none⟩) f.length n) f := by
     refine ⟨_, B, 0, n, rfl, fun _ => rfl, fun j hj => ?_, fun j => ?_, by omega⟩
     ·rw [rd_def, hb, Nat.zero_add]
      simp only [rdO_cells]
      rw [intsC_get (by omega), take_nth hbt rfl hj]
     ·by_cases hj : j < f.length
      ·have := hf _ (nth_mem hj)
       constructor <;> omega
      ·rw [nth_ge (by omega)]; constructor <;> omega
    have hct := containsI_ hE (y := (i : Int)) hInt (by omega)
    by_cases hmem : (i : Int) ∈ f
    ·have hvs : visI n m f (i + 1) = visI n m f i := by rw [visI_succ, if_pos hmem, List.append_nil]
     simp [g0, g1, g2, g3, g15, g16, hi, DC_of hct, hmem, hw]
     refine ⟨kk - 1, by omega, i + 1, by omega, h', f', ⟨rfl, rfl⟩, hbf, ?_, hlen, hkeep, ?_, by omega⟩
     ·rw [hvs]; exact hfl
     ·rw [hvs]; exact hI'
    ·have hvs : visI n m f (i + 1) = visI n m f i ++ visL n m (f ++ [(i : Int)]) := by rw [visI_succ, if_neg hmem]
     have hpv := hkeep _ _ h7 e2 h12 h11
     have hpn := hkeep _ _ h6 e1 h10 h9
     have hBl := (List.getElem?_eq_some_iff.1 hb).1
     have hx0 : rdN (h' ++ [O.cells [.int .i64 i] 3 (some 0)]) h'.length 0 1 = some [.int .i64 i] := by simp [rdN_at0]
     have happ := append_fit (el := 3) (bytes := 8) (k := f.length) (c := n) (fl := f') (app_of hb [O.cells [.int .i64 i] 3 (some 0)]) (by omega) (by simp; omega) (by rfl) hx0
     rw [intsC_set] at happ
     obtain ⟨H, hH⟩ : ∃ H, H = (h' ++ [O.cells [.int .i64 i] 3 (some 0)]).set B (.cells (intsC (buf.set f.length i)) 3 (some 0)) := ⟨_, rfl⟩
     have hlH : H.length = h'.length + 1 := by rw [hH, List.length_set]; simp
     rw [← hH] at happ
     have hKH : ∀ (b : Nat) (o : O), h'[b]? = some o → b ≠ B → H[b]? = some o := fun b o hb hn => by rw [hH]; exact set_ne (app_of hb _) hn
     have hHB : H[B]? = some (.cells (intsC (buf.set f.length i)) 3 (some 0)) := by rw [hH]; exact set_self (app_of hb _)
     obtain ⟨ov, vs, ho, hov, hP⟩ := hI'.out
     have hfl1 : (f ++ [(i : Int)]).length = f.length + 1 := by simp
     have hIH : VsI H lo n B po (f ++ [(i : Int)]).length (f ++ [(i : Int)]) (Ls ++ visI n m f i) := by
      refine ⟨⟨_, hHB, by simp [hbl], by rw [hfl1]; exact take_set_snoc hbt (by omega)⟩, ⟨ov, vs, hKH _ _ ho h8, ?_, fun q hq => ?_⟩, by omega⟩
      ·refine hov.keep fun b s e1 e2 => hKH _ _ e2 fun e => ?_
       rcases hov.2 with ⟨z1, _⟩ | ⟨b2, s2, z1, z2, z3, _⟩
       ·rw [z1] at e1; cases e1
       ·rw [z1] at e1
        simp only [Value.slice.injEq, Option.some.injEq, Addr.mk.injEq] at e1
        omega
      ·obtain ⟨b, q1, q2, q3⟩ := hP q hq
       exact ⟨b, q1, q2, hKH _ _ q3 (by omega)⟩
     have hvle := visI_le n m f i
     have hmul : (i + 1) * n ^ m ≤ n * n ^ m := Nat.mul_le_mul_right _ (by omega)
     rw [Nat.succ_mul] at hmul
     rw [Nat.pow_succ, Nat.mul_comm] at hbd
     have hcall := ih (h := H) (f := f ++ [(i : Int)]) (Ls := Ls ++ visI n m f i) (by rw [hfl1]; omega) (fun y hy => by
      rcases List.mem_append.1 hy with hy | hy
      ·exact hf y hy
      ·simp at hy; omega) hn0 (by rw [List.length_append]; omega) (hKH _ _ hpn h9) (hKH _ _ hpv h11) hIH
     rw [hfl1] at hcall
     simp [visV] at hpv
     simp [g0, g1, g2, g3, g15, g16, hi, DC_of hct, hmem, rd_def, hpv, bit, happ, -List.length_append]
     refine ⟨Ne.symm h11, hcall.imp ?_⟩
     rintro o ⟨h4', f4⟩ ⟨rfl, r1, r2, r3, r4⟩
     simp only at r1 r2 r3 r4
     have hjf : ∃ f5, joined ⟨H, min f' B⟩ ⟨h4', f4⟩ = ⟨h4', f5⟩ ∧ base ≤ f5 ∧ f5 < h.length := by
      simp only [joined]
      by_cases c : f4 < H.length
      ·rw [if_pos c]; exact ⟨_, rfl, by omega, by omega⟩
      ·rw [if_neg c]; exact ⟨_, rfl, by omega, by omega⟩
     obtain ⟨f5, hj5, hj6, hj7⟩ := hjf
     have hl4 : h.length ≤ h4'.length := by omega
     simp [hj5, bit, g0, g1, g2, g3, g15, g16, hw]
     refine ⟨kk - 1, by omega, i + 1, by omega, h4', f5, ⟨rfl, rfl⟩, hj6, .inr hj7, hl4, fun b o hbl hb hn1 hn2 => r3 b o hbl (hKH _ _ (hkeep b o hbl hb hn1 hn2) hn2) hn1 hn2, ?_, by omega⟩
     rw [hvs, ← List.append_assoc]
     obtain ⟨buf2, y1, y2, y3⟩ := r4.buf
     refine ⟨⟨buf2, y1, y2, ?_⟩, r4.out, r4.lo_⟩
     have := congrArg (List.take f.length) y3
     rw [List.take_take, Nat.min_eq_left (by omega), List.take_left] at this
     exact this
   ·have hin : i = n := by omega
    subst hin
    simp [g0, g1, g2, g3, g15, g16]
    rcases hfl with ⟨rfl, rfl, hv0⟩ | hfl
    ·unfold pairQ
     rw [back_scalar (by rfl) (Nat.le_refl _)]
     exact ⟨rfl, by simp only; omega, Nat.le_refl _, fun b o _ hb _ _ => hb, hI'⟩
    ·unfold pairQ back
     rw [if_neg (by simp; omega)]
     exact ⟨rfl, hbf, hlen, hkeep, hI'⟩
  ·refine ⟨0, h, h.length, by omega, rfl, by omega, .inl ⟨rfl, rfl, by simp [visI]⟩, Nat.le_refl _, fun b o _ hb _ _ => hb, by simpa [visI] using hI, by simp⟩
end Go.Proofs.Ytjlkndkedknocaa
namespace Go.Ai
def permL (n : Nat) : List (List Int) := visL n n []
end Go.Ai
namespace Go.Proofs.Ytjlkndkedknocaa
open Go Go.Ai
attribute [local instance] Classical.propDecidable
def PermsP (h : List O) (lo n : Nat) (v : Value) : Prop := ∃ vs, OwnS h lo v (permL n).length vs 34 1 ∧ PrmI h lo n vs (permL n)
theorem PrmI.keep {h h' : List O} {lo n : Nat} {vs : List Value} {Ls : List (List Int)} (k : PrmI h lo n vs Ls) (hk : ∀ (b : Nat) (o : O), lo ≤ b → h[b]? = some o → h'[b]? = some o) : PrmI h' lo n vs Ls := fun q hq => by
 obtain ⟨b, h1, h2, h3⟩ := k q hq
 exact ⟨b, h1, h2, hk b _ h2 h3⟩
theorem PermsP.keep {h h' : List O} {lo n : Nat} {v : Value} (k : PermsP h lo n v) (hk : ∀ (b : Nat) (o : O), lo ≤ b → h[b]? = some o → h'[b]? = some o) : PermsP h' lo n v := by
 obtain ⟨vs, h1, h2⟩ := k
 refine ⟨vs, h1.keep fun b s e1 e2 => ?_, h2.keep hk⟩
 rcases h1.2 with ⟨z1, _⟩ | ⟨b2, s2, z1, z2, z3, _⟩
 ·rw [z1] at e1; cases e1
 ·rw [z1] at e1
  simp only [Value.slice.injEq, Option.some.injEq, Addr.mk.injEq] at e1
  exact hk b _ (by omega) e2
theorem PermsP.look {h : List O} {lo n : Nat} {v : Value} (k : PermsP h lo n v) : ∃ a, v = .slice a (permL n).length (permL n).length ∧ ∀ q, q < (permL n).length → ∃ b b', a = some ⟨b, 0, none⟩ ∧ lo ≤ b ∧ rdO h[b]? q = some (.slice (some ⟨b', 0, none⟩) n n) ∧ lo ≤ b' ∧ h[b']? = some (.cells (intsC (nthR (permL n) q)) 3 (some 1)) := by
 obtain ⟨vs, ⟨h1, h2⟩, h3⟩ := k
 rcases h2 with ⟨rfl, h0⟩ | ⟨b, s, rfl, hb, hc, _⟩
 ·exact ⟨none, by rw [h0], fun q hq => by omega⟩
 ·refine ⟨_, rfl, fun q hq => ?_⟩
  obtain ⟨b', r1, r2, r3⟩ := h3 q hq
  exact ⟨b, b', rfl, hb, by rw [hc]; exact r1, r2, r3⟩
variable {E : Env} (hE : OE E)
include hE
theorem permutations_ {h0 : List O} {n : Nat} (hn : 1 ≤ n ∧ n ≤ 6) :
  DC E 132 [.int .i64 n] ⟨h0, h0.length⟩ fun o st' => ∃ v, o = .ret v ∧ Sub h0 st'.h ∧ h0.length ≤ st'.fl ∧ PermsP st'.h h0.length n v := by
 refine hE.fnC (body := rb132) rfl ?_
 unfold rb132
 have e1 : (n : Int) * 8 ≤ 140737488355328 := by omega
 have e2 : (n : Int) < 4611686018427387904 := by omega
 have hrep : rep n [Value.int .i64 0] = intsC (List.replicate n 0) := by simp [rep, intsC]
 have hb1 : one1 (.func (.func 186) #[] #[.pointer (some ⟨h0.length, 0, none⟩), .pointer (some ⟨h0.length + 1, 0, none⟩), .pointer (some ⟨h0.length + 2, 0, none⟩)]) = true := rfl
 have hb2 : (Value.func (.func 186) #[] #[.pointer (some ⟨h0.length, 0, none⟩), .pointer (some ⟨h0.length + 1, 0, none⟩), .pointer (some ⟨h0.length + 2, 0, none⟩)]).cells = #[.func (.func 186) #[] #[.pointer (some ⟨h0.length, 0, none⟩), .pointer (some ⟨h0.length + 1, 0, none⟩), .pointer (some ⟨h0.length + 2, 0, none⟩)]] := rfl
 obtain ⟨H, hH⟩ : ∃ H, H = h0 ++ [O.cells [.int .i64 n] 3 (some 0), .cells [.slice none 0 0] 48 (some 0), .cells [visV h0.length (h0.length + 1) (h0.length + 2)] 226 (some 0), .cells (intsC (List.replicate n 0)) 3 (some 0)] := ⟨_, rfl⟩
 have hlH : H.length = h0.length + 4 := by rw [hH]; simp
 have q0 : H[h0.length]? = some (.cells [.int .i64 n] 3 (some 0)) := by rw [hH, app_at0]; rfl
 have q1 : H[h0.length + 1]? = some (.cells [.slice none 0 0] 48 (some 0)) := by rw [hH, app_at]; rfl
 have q2 : H[h0.length + 2]? = some (.cells [visV h0.length (h0.length + 1) (h0.length + 2)] 226 (some 0)) := by rw [hH, app_at]; rfl
 have q3 : H[h0.length + 3]? = some (.cells (intsC (List.replicate n 0)) 3 (some 0)) := by rw [hH, app_at]; rfl
 have hpow : n ^ n ≤ 46656 := by
  have h1 : n ^ n ≤ 6 ^ n := Nat.pow_le_pow_left hn.2 n
  have h2 : 6 ^ n ≤ 6 ^ 6 := Nat.pow_le_pow_right (by omega) hn.2
  omega
 have hv := visit_ hE (n := n) (lo := h0.length + 4) (base := h0.length) (B := h0.length + 3) (pn := h0.length) (po := h0.length + 1) (pv := h0.length + 2) hn.2 (by omega) (by omega) (by omega) (by omega) (by omega) (by omega) (by omega) (by omega) (by omega) (by omega) (by omega) (by omega)
  n (h := H) (f := []) (Ls := []) (by simp) (fun y hy => by simp at hy) (by omega) (by simp; omega) q0 q2
  ⟨⟨_, q3, by simp, by simp⟩, ⟨.slice none 0 0, [], q1, OwnS.nil _ _ _ _, fun q hq => by simp at hq⟩, by omega⟩
 simp only [visV] at hH
 simp at hv
 simp [e1, e2, hrep, wrN_at, set_at, hb1, hb2, rd_at, rd_at0, bit, List.append_assoc, ← hH, ← hlH]
 refine hv.imp ?_
 rintro o ⟨h4, f4⟩ ⟨rfl, r1, r2, r3, r4⟩
 simp only at r1 r2 r3 r4
 obtain ⟨ov, vs, y1, y2, y3⟩ := r4.out
 have hjf : ∃ f5, joined ⟨H, h0.length⟩ ⟨h4, f4⟩ = ⟨h4, f5⟩ ∧ h0.length ≤ f5 := by
  simp only [joined]
  by_cases c : f4 < H.length
  ·rw [if_pos c]; exact ⟨_, rfl, by omega⟩
  ·rw [if_neg c]; exact ⟨_, rfl, by omega⟩
 obtain ⟨f5, hj5, hj6⟩ := hjf
 simp [hj5, bit, rd_def, y1, endK_normal]
 unfold pairQ back
 have hP : PermsP h4 h0.length n ov := by
  refine ⟨vs, ?_, fun q hq => ?_⟩
  ·obtain ⟨z1, z2⟩ := y2
   refine ⟨z1, ?_⟩
   rcases z2 with z2 | ⟨b, s, a1, a2, a3⟩
   ·exact .inl z2
   ·exact .inr ⟨b, s, a1, by omega, a3⟩
  ·obtain ⟨b, a1, a2, a3⟩ := y3 q hq
   exact ⟨b, a1, by omega, a3⟩
 split
 ·rename_i hc
  refine ⟨ov, rfl, Sub.refl _, Nat.le_refl _, ?_⟩
  obtain ⟨a, hov, _⟩ := hP.look
  have hfl : flat ov = true := by
   rw [hov] at hc ⊢
   simp [Out.scalar, scalar, flat1] at hc
   exact hc.1
  have hl0 := flat_len hov hfl
  refine ⟨vs, ⟨y2.1, ?_⟩, fun q hq => by omega⟩
  rcases y2.2 with ⟨z1, z2⟩ | ⟨b, s, a1, a2, a3, a4⟩
  ·exact .inl ⟨z1, z2⟩
  ·rw [a1] at hfl; simp [flat] at hfl
 ·exact ⟨ov, rfl, fun b o hb => by
   have := (List.getElem?_eq_some_iff.1 hb).1
   exact r3 b o (by omega) (by rw [hH]; exact app_of hb _) (by omega) (by omega), hj6, hP⟩
end Go.Proofs.Ytjlkndkedknocaa
namespace Go.Proofs.Ytjlkndkedknocaa
open Go Go.Ai
attribute [local instance] Classical.propDecidable
structure AskI (h : List O) (pI pK pN n : Nat) (A B : List (List Int)) : Prop where
 vI : ∃ v, h[pI]? = some (.cells [v] 48 (some 0)) ∧ Mat h v A
 vK : ∃ v, h[pK]? = some (.cells [v] 48 (some 0)) ∧ Mat h v B
 vN : h[pN]? = some (.cells [.int .i64 n] 3 (some 0))
 rA : RowsOk n A
 rB : RowsOk n B
 len : B.length = A.length
 small : A.length ≤ 100000 ∧ n ≤ 100000
def askV (pI pK pN : Nat) : Value := .func (.func 191) #[] #[.pointer (some ⟨pI, 0, none⟩), .pointer (some ⟨pK, 0, none⟩), .pointer (some ⟨pN, 0, none⟩)]
variable {E : Env} (hE : OE E)
include hE
theorem asks_ {h : List O} {pI pK pN n : Nat} {A B : List (List Int)} {vw : Value} {w : List Int} (hI : AskI h pI pK pN n A B) (hw : Ints h vw w) (hL : LetOk A.length w) :
  DR E 191 [vw, .pointer (some ⟨pI, 0, none⟩), .pointer (some ⟨pK, 0, none⟩), .pointer (some ⟨pN, 0, none⟩)] ⟨h, h.length⟩ (.ret (.bool (!decide (TrivL A B w n)))) ⟨h, h.length⟩ := by
 refine hE.fn (body := rb191) rfl ?_
 unfold rb191
 obtain ⟨v1, e1, m1⟩ := hI.vI
 obtain ⟨v2, e2, m2⟩ := hI.vK
 have e3 := hI.vN
 have ht := isTrivial_ hE m1 m2 hw hI.rA hI.rB hI.len hL hI.small
 simp [rd_def, e1, e2, e3, DC_of ht, endK_ret]
theorem indexF_ {h : List O} {pI pK pN n : Nat} {A B R : List (List Int)} {v : Value} (hI : AskI h pI pK pN n A B) (hR : Mat h v R) (hL : ∀ i, i < R.length → LetOk A.length (nthR R i)) (hlt : R.length < 1000000) :
  DR E 228 [v, askV pI pK pN] ⟨h, h.length⟩ (.ret (.int .i64 (firstI (fun i => !decide (TrivL A B (nthR R i) n)) R.length))) ⟨h, h.length⟩ := by
 refine hE.fn (body := rb228) rfl ?_
 unfold rb228
 obtain ⟨a, b, o, c, vs, rfl, ha, hrd⟩ := hR.at
 simp
 refine DW_loop (fun kk fr st => ∃ (i : Nat), i + kk = R.length ∧ st = ⟨h, h.length⟩ ∧ (∀ j, j < i → TrivL A B (nthR R j) n) ∧ get fr 0 = .slice a R.length c ∧ get fr 1 = askV pI pK pN ∧ get fr 7 = .int .i64 R.length ∧ get fr 8 = .int .i64 i) ?_ (k := R.length) ?_
 ·rintro kk fr st ⟨i, hik, rfl, hm, g0, g1, g7, g8⟩
  by_cases hi : i < R.length
  ·have hw : IntKind.i64.wrap ((i : Int) + 1) = (i : Int) + 1 := by rw [w64_id] <;> omega
   obtain rfl := ha (by omega)
   obtain ⟨hr1, hr2⟩ := hrd i hi
   have hq := asks_ hE hI hr2 (hL i hi)
   by_cases hy : TrivL A B (nthR R i) n
   ·simp [g0, g1, g7, g8, hi, rd_def, hr1, askV, DC_of hq, hy, hw]
    refine ⟨kk - 1, by omega, i + 1, by omega, fun j hj => ?_, by omega⟩
    by_cases e : j = i
    ·rw [e]; exact hy
    ·exact hm j (by omega)
   ·have hf : firstI (fun i => !decide (TrivL A B (nthR R i) n)) R.length = i := firstI_found hi (by simp [hy]) (fun j hj => by simp [hm j hj])
    simp [g0, g1, g7, g8, hi, rd_def, hr1, askV, DC_of hq, hy, endK_ret]
    exact hf.symm
  ·have hin : i = R.length := by omega
   subst hin
   have hf : firstI (fun i => !decide (TrivL A B (nthR R i) n)) R.length = -1 := firstI_none (fun j hj => by simp [hm j hj])
   simp [g0, g1, g7, g8, endK_ret]
   exact hf.symm
 ·exact ⟨0, by omega, rfl, fun j h => by omega, by simp⟩
theorem containsF_ {h : List O} {pI pK pN n : Nat} {A B R : List (List Int)} {v : Value} (hI : AskI h pI pK pN n A B) (hR : Mat h v R) (hL : ∀ i, i < R.length → LetOk A.length (nthR R i)) (hlt : R.length < 1000000) :
  DR E 190 [v, askV pI pK pN] ⟨h, h.length⟩ (.ret (.bool (!decide (∀ i, i < R.length → TrivL A B (nthR R i) n)))) ⟨h, h.length⟩ := by
 refine hE.fn (body := rb190) rfl ?_
 unfold rb190
 have hi := indexF_ hE hI hR hL hlt
 have hiff : (0 ≤ firstI (fun i => !decide (TrivL A B (nthR R i) n)) R.length) ↔ ¬ ∀ i, i < R.length → TrivL A B (nthR R i) n := by
  rcases firstI_cases (fun i => !decide (TrivL A B (nthR R i) n)) R.length with ⟨i, h1, h2, _, h3⟩ | ⟨h1, h2⟩
  ·rw [h3]
   have : ¬ TrivL A B (nthR R i) n := by simpa using h2
   exact ⟨fun _ hall => this (hall i h1), fun _ => by omega⟩
  ·rw [h2]
   refine ⟨fun h => by omega, fun h => absurd (fun i hi => ?_) h⟩
   have := h1 i hi
   simpa using this
 by_cases hall : ∀ i, i < R.length → TrivL A B (nthR R i) n
 ·have h0 : ¬ 0 ≤ firstI (fun i => !decide (TrivL A B (nthR R i) n)) R.length := fun h => hiff.1 h hall
  rw [decide_eq_true hall]
  generalize firstI (fun i => !decide (TrivL A B (nthR R i) n)) R.length = z at hi h0
  simp [DC_of hi, endK_ret, h0]
 ·have h0 := hiff.2 hall
  rw [decide_eq_false hall]
  generalize firstI (fun i => !decide (TrivL A B (nthR R i) n)) R.length = z at hi h0
  simp [DC_of hi, endK_ret, h0]
end Go.Proofs.Ytjlkndkedknocaa
namespace Go.Ai
attribute [local instance] Classical.propDecidable
def lastW (w : List Int) : Nat := w.foldl (fun m x => max m x.natAbs) 0
def readyL (rels : List (List Int)) (j : Nat) : List (List Int) := rels.filter fun r => lastW r == j
def GoodA (n : Nat) (rels A : List (List Int)) : Prop := ∀ i, i < (readyL rels A.length).length → TrivL A (A.map invL) (nthR (readyL rels A.length) i) n
def sumNat (f : Nat → Nat) : Nat → Nat
 | 0 => 0
 | i + 1 => sumNat f i + f i
theorem sumNat_le {f : Nat → Nat} {M : Nat} : ∀ {n : Nat}, (∀ i, i < n → f i ≤ M) → sumNat f n ≤ n * M := by
 intro n
 induction n with
 | zero => intro _; simp [sumNat]
 | succ n ih =>
  intro h
  have h1 := ih fun i hi => h i (by omega)
  have h2 := h n (by omega)
  simp only [sumNat, Nat.succ_mul]
  omega
noncomputable def cntV (n : Nat) (P rels : List (List Int)) : Nat → List (List Int) → Nat
 | 0, _ => 1
 | m + 1, im => sumNat (fun q => if GoodA n rels (im ++ [nthR P q]) then cntV n P rels m (im ++ [nthR P q]) else 0) P.length
noncomputable def cntI (n : Nat) (P rels : List (List Int)) (m : Nat) (im : List (List Int)) (i : Nat) : Nat := sumNat (fun q => if GoodA n rels (im ++ [nthR P q]) then cntV n P rels m (im ++ [nthR P q]) else 0) i
theorem cntV_le (n : Nat) (P rels : List (List Int)) : ∀ m im, cntV n P rels m im ≤ P.length ^ m := by
 intro m
 induction m with
 | zero => intro im; simp [cntV]
 | succ m ih =>
  intro im
  have := sumNat_le (f := fun q => if GoodA n rels (im ++ [nthR P q]) then cntV n P rels m (im ++ [nthR P q]) else 0) (M := P.length ^ m) (n := P.length) fun q _ => by
   split
   ·exact ih _
   ·omega
  rw [Nat.pow_succ, Nat.mul_comm]
  exact this
theorem cntI_le (n : Nat) (P rels : List (List Int)) (m : Nat) (im : List (List Int)) (i : Nat) : cntI n P rels m im i ≤ i * P.length ^ m := sumNat_le fun q _ => by
 split
 ·exact cntV_le _ _ _ _ _
 ·omega
theorem slice_pre {h : List O} {B gl c g : Nat} {cs : List Value} {e : TypeId} (hb : h[B]? = some (.cells cs e (some 0))) (hg : g ≤ c) : sliceV h 1 (.slice (some ⟨B, 0, none⟩) gl c) none (some (.int .i64 g)) none = some (.slice (some ⟨B, 0, none⟩) g c) := by
 have h1 : (g : Int) ≤ c := by omega
 simp [sliceV, mxB, hiB, loB, bound, sliceA, tagOk, hb, h1, hg]
theorem lastW_le {w : List Int} {y : Int} (hy : y ∈ w) : y.natAbs ≤ lastW w := by
 have key : ∀ (l : List Int) (m : Nat), m ≤ l.foldl (fun m x => max m x.natAbs) m ∧ ∀ y ∈ l, y.natAbs ≤ l.foldl (fun m x => max m x.natAbs) m := by
  intro l
  induction l with
  | nil => intro m; exact ⟨Nat.le_refl _, fun y hy => by simp at hy⟩
  | cons z l ih =>
   intro m
   obtain ⟨h1, h2⟩ := ih (max m z.natAbs)
   refine ⟨by simp only [List.foldl_cons]; omega, fun y hy => ?_⟩
   simp only [List.foldl_cons]
   rcases List.mem_cons.1 hy with rfl | hy
   ·omega
   ·exact h2 y hy
 exact (key w 0).2 y hy
end Go.Ai
namespace Go.Proofs.Ytjlkndkedknocaa
open Go Go.Ai
attribute [local instance] Classical.propDecidable
def SubX (pI pK B1 B2 pO : Nat) (h h' : List O) : Prop := ∀ (b : Nat) (o : O), h[b]? = some o → b ≠ pI → b ≠ pK → b ≠ B1 → b ≠ B2 → b ≠ pO → h'[b]? = some o
theorem SubX.refl (pI pK B1 B2 pO : Nat) (h : List O) : SubX pI pK B1 B2 pO h h := fun _ _ k _ _ _ _ _ => k
theorem SubX.trans {pI pK B1 B2 pO : Nat} {a b c : List O} (h : SubX pI pK B1 B2 pO a b) (k : SubX pI pK B1 B2 pO b c) : SubX pI pK B1 B2 pO a c := fun x o e h1 h2 h3 h4 h5 => k x o (h x o e h1 h2 h3 h4 h5) h1 h2 h3 h4 h5
theorem SubX.app {pI pK B1 B2 pO : Nat} {h h' : List O} (k : SubX pI pK B1 B2 pO h h') (l : List O) : SubX pI pK B1 B2 pO h (h' ++ l) := fun b o e h1 h2 h3 h4 h5 => app_of (k b o e h1 h2 h3 h4 h5) l
theorem SubX.set {pI pK B1 B2 pO : Nat} {h h' : List O} (k : SubX pI pK B1 B2 pO h h') {b : Nat} (hb : b = pI ∨ b = pK ∨ b = B1 ∨ b = B2 ∨ b = pO) (o : O) : SubX pI pK B1 B2 pO h (h'.set b o) := fun c o' e h1 h2 h3 h4 h5 => set_ne (k c o' e h1 h2 h3 h4 h5) (by omega)
def RowsB (h : List O) (B c n pO : Nat) (A : List (List Int)) : Prop :=
 ∃ cs, h[B]? = some (.cells cs 34 (some 0)) ∧ cs.length = c ∧ ∀ q, q < A.length → ∃ b s, cs[q]? = some (.slice (some ⟨b, 0, none⟩) n n) ∧ b ≠ pO ∧ h[b]? = some (.cells (intsC (nthR A q)) 3 (some s))
theorem RowsB.mat {h : List O} {B c n pO : Nat} {A : List (List Int)} (k : RowsB h B c n pO A) (hA : ∀ q, q < A.length → PermL n (nthR A q)) (hs : A.length ≤ 1000 ∧ n ≤ 1000) : Mat h (.slice (some ⟨B, 0, none⟩) A.length c) A := by
 obtain ⟨cs, h1, h2, h3⟩ := k
 refine ⟨_, B, 0, c, fun q => (cs[q]?).getD undef, rfl, fun _ => rfl, fun q hq => ?_, by omega⟩
 obtain ⟨b, s, r1, _, r2⟩ := h3 q hq
 have hp := hA q hq
 refine ⟨by rw [rd_def, h1, Nat.zero_add]; simp [r1], ?_⟩
 simp only [r1, Option.getD_some]
 refine ⟨_, b, 0, n, by rw [hp.len], fun _ => rfl, fun j hj => by rw [rd_def, r2, Nat.zero_add]; exact intsC_get hj, fun j => ?_, by rw [hp.len]; omega⟩
 by_cases hj : j < (nthR A q).length
 ·have := hp.rng j hj
  constructor <;> omega
 ·rw [nth_ge (by omega)]; constructor <;> omega
structure DynI (h : List O) (pI pK B1 B2 pO n gens gl : Nat) (c : Int) (A : List (List Int)) : Prop where
 i : h[pI]? = some (.cells [.slice (some ⟨B1, 0, none⟩) gl gens] 48 (some 0))
 k : h[pK]? = some (.cells [.slice (some ⟨B2, 0, none⟩) gl gens] 48 (some 0))
 b1 : RowsB h B1 gens n pO A
 b2 : RowsB h B2 gens n pO (invA A)
 o : h[pO]? = some (.cells [.int .i64 c] 3 (some 0))
theorem nthR_snoc {A : List (List Int)} {f : List Int} {q : Nat} : nthR (A ++ [f]) q = if q < A.length then nthR A q else if q = A.length then f else [] := by
 unfold nthR
 by_cases h : q < A.length
 ·rw [if_pos h]; simp [List.getD_eq_getElem?_getD, List.getElem?_append_left h]
 ·rw [if_neg h, List.getD_eq_getElem?_getD, List.getElem?_append_right (by omega)]
  by_cases e : q = A.length
  ·rw [if_pos e, e]; simp
  ·rw [if_neg e, List.getElem?_eq_none (by simp; omega)]; rfl
theorem RowsB.add {h H : List O} {B c n pO b s : Nat} {A : List (List Int)} {f : List Int} {cs : List Value} (hc : h[B]? = some (.cells cs 34 (some 0))) (hl : cs.length = c) (hr : ∀ q, q < A.length → ∃ b s, cs[q]? = some (.slice (some ⟨b, 0, none⟩) n n) ∧ b ≠ pO ∧ h[b]? = some (.cells (intsC (nthR A q)) 3 (some s)))
  (hA : A.length < c) (hH : H[B]? = some (.cells (cs.set A.length (.slice (some ⟨b, 0, none⟩) n n)) 34 (some 0))) (hk : ∀ b' cs' s', h[b']? = some (.cells cs' 3 (some s')) → b' ≠ pO → H[b']? = some (.cells cs' 3 (some s')))
  (hb : b ≠ pO) (hf : H[b]? = some (.cells (intsC f) 3 (some s))) : RowsB H B c n pO (A ++ [f]) := by
 refine ⟨_, hH, by simp [hl], fun q hq => ?_⟩
 simp at hq
 rw [nthR_snoc]
 by_cases e : q < A.length
 ·rw [if_pos e]
  obtain ⟨b1, s1, r1, r2, r3⟩ := hr q e
  exact ⟨b1, s1, by rw [List.getElem?_set_ne (by omega)]; exact r1, r2, hk _ _ _ r3 r2⟩
 ·have eq : q = A.length := by omega
  rw [if_neg e, if_pos eq, eq]
  exact ⟨b, s, by rw [List.getElem?_set_self (by omega)], hb, hf⟩
theorem RowsB.keep {h h' : List O} {B c n pO : Nat} {A : List (List Int)} (k : RowsB h B c n pO A) (hB : ∀ cs, h[B]? = some (.cells cs 34 (some 0)) → h'[B]? = some (.cells cs 34 (some 0))) (hk : ∀ b' cs' s', h[b']? = some (.cells cs' 3 (some s')) → b' ≠ pO → h'[b']? = some (.cells cs' 3 (some s'))) : RowsB h' B c n pO A := by
 obtain ⟨cs, h1, h2, h3⟩ := k
 refine ⟨cs, hB _ h1, h2, fun q hq => ?_⟩
 obtain ⟨b, s, r1, r2, r3⟩ := h3 q hq
 exact ⟨b, s, r1, r2, hk _ _ _ r3 r2⟩
theorem RowsB.less {h : List O} {B c n pO : Nat} {A : List (List Int)} {f : List Int} (k : RowsB h B c n pO (A ++ [f])) : RowsB h B c n pO A := by
 obtain ⟨cs, h1, h2, h3⟩ := k
 refine ⟨cs, h1, h2, fun q hq => ?_⟩
 obtain ⟨b, s, r1, r2, r3⟩ := h3 q (by simp; omega)
 rw [nthR_snoc, if_pos hq] at r3
 exact ⟨b, s, r1, r2, r3⟩
theorem invA_snoc (A : List (List Int)) (f : List Int) : invA (A ++ [f]) = invA A ++ [invL f] := by simp [invA]
def visV2 (pI pG pY pA pK pR pN pV : Nat) : Value := .func (.func 189) #[] #[.pointer (some ⟨pI, 0, none⟩), .pointer (some ⟨pG, 0, none⟩), .pointer (some ⟨pY, 0, none⟩), .pointer (some ⟨pA, 0, none⟩), .pointer (some ⟨pK, 0, none⟩), .pointer (some ⟨pR, 0, none⟩), .pointer (some ⟨pN, 0, none⟩), .pointer (some ⟨pV, 0, none⟩)]
structure FixI (E : Env) (h : List O) (aa : Option Addr) (pG pY pA pR pN pV pO k n gens : Nat) (vV : Value) (rels : List (List Int)) : Prop where
 g : ∃ vr, h[pG]? = some (.cells [.int .i64 gens, vr] 81 (some 0))
 y : h[pY]? = some (.cells [tok k] 219 (some 0))
 a : h[pA]? = some (.cells [.slice aa (permL n).length (permL n).length] 48 (some 0))
 rows : ∀ q, q < (permL n).length → ∃ b b', aa = some ⟨b, 0, none⟩ ∧ rdO h[b]? q = some (.slice (some ⟨b', 0, none⟩) n n) ∧ b' ≠ pO ∧ h[b']? = some (.cells (intsC (nthR (permL n) q)) 3 (some 1))
 r : ∃ Rb rv, h[pR]? = some (.cells [.slice (some ⟨Rb, 0, none⟩) (gens + 1) (gens + 1)] 129 (some 0)) ∧ h[Rb]? = some (.cells rv 48 (some 0)) ∧ ∀ j, j < gens + 1 → ∃ v, rv[j]? = some v ∧ Mat h v (readyL rels j)
 n_ : h[pN]? = some (.cells [.int .i64 n] 3 (some 0))
 v : h[pV]? = some (.cells [vV] 25 (some 0))
 call : ∀ (v : Value) (c : Int), h[pO]? = some (.cells [.int .i64 c] 3 (some 0)) → 0 ≤ c ∧ c ≤ 10000000000 → DR E (yB + k) [v] ⟨h, h.length⟩ (.ret (.bool true)) ⟨h.set pO (.cells [.int .i64 (c + 1)] 3 (some 0)), min pO k⟩
end Go.Proofs.Ytjlkndkedknocaa
namespace Go.Proofs.Ytjlkndkedknocaa
open Go Go.Ai
attribute [local instance] Classical.propDecidable
variable {E : Env} (hE : OE E)
include hE
theorem visit2_ {hV : List O} {aa : Option Addr} {pI pG pY pA pK pR pN pV pO B1 B2 k n gens base : Nat} {rels : List (List Int)} (hn : 1 ≤ n ∧ n ≤ 6) (hgens : gens ≤ 600)
  (hPerm : ∀ q, q < (permL n).length → PermL n (nthR (permL n) q)) (hlet : ∀ r ∈ rels, LetOk (lastW r) r) (hrels : rels.length < 1000000)
  (hfix : ∀ h, SubX pI pK B1 B2 pO hV h → hV.length ≤ h.length → FixI E h aa pG pY pA pR pN pV pO k n gens (visV2 pI pG pY pA pK pR pN pV) rels)
  (hb : base ≤ pI ∧ base ≤ pK ∧ base ≤ B1 ∧ base ≤ B2 ∧ base ≤ pO ∧ base ≤ k) (hl : pI < hV.length ∧ pK < hV.length ∧ B1 < hV.length ∧ B2 < hV.length ∧ pO < hV.length ∧ k < hV.length) (hbl : base ≤ hV.length)
  (d1 : pI ≠ pK) (d2 : pI ≠ B1) (d3 : pI ≠ B2) (d4 : pI ≠ pO) (d5 : pK ≠ B1) (d6 : pK ≠ B2) (d7 : pK ≠ pO) (d8 : B1 ≠ B2) (d9 : B1 ≠ pO) (d10 : B2 ≠ pO) :
  ∀ (m : Nat) {h : List O} {im : List (List Int)} {c : Int}, im.length + m = gens → (∀ q, q < im.length → PermL n (nthR im q)) → SubX pI pK B1 B2 pO hV h → hV.length ≤ h.length → DynI h pI pK B1 B2 pO n gens im.length c im → 0 ≤ c → c + ((permL n).length ^ m : Nat) ≤ 10000000000 →
   DC E 189 [.pointer (some ⟨pI, 0, none⟩), .pointer (some ⟨pG, 0, none⟩), .pointer (some ⟨pY, 0, none⟩), .pointer (some ⟨pA, 0, none⟩), .pointer (some ⟨pK, 0, none⟩), .pointer (some ⟨pR, 0, none⟩), .pointer (some ⟨pN, 0, none⟩), .pointer (some ⟨pV, 0, none⟩)] ⟨h, h.length⟩ fun o st' =>
    o = .ret (.bool true) ∧ base ≤ st'.fl ∧ st'.fl < hV.length ∧ h.length ≤ st'.h.length ∧ SubX pI pK B1 B2 pO h st'.h ∧ DynI st'.h pI pK B1 B2 pO n gens im.length (c + cntV n (permL n) rels m im) im := by
 intro m
 induction m with
 | zero =>
  intro h im c hm him hs hlen hD hc0 hc1
  refine hE.fnC (body := rb189) rfl ?_
  unfold rb189
  have hF := hfix h hs hlen
  obtain ⟨vr, fg⟩ := hF.g
  have fy := hF.y
  have e1 := hD.i
  have hgl : im.length = gens := by omega
  rw [hgl] at e1
  have hcall := hF.call (.slice (some ⟨B1, 0, none⟩) gens gens) c hD.o ⟨hc0, by omega⟩
  have hfl : min pO k < h.length := by omega
  have hjd : joined ⟨h, h.length⟩ ⟨h.set pO (.cells [.int .i64 (c + 1)] 3 (some 0)), min pO k⟩ = ⟨h.set pO (.cells [.int .i64 (c + 1)] 3 (some 0)), min pO k⟩ := by
   simp only [joined]
   rw [if_pos hfl]
   congr 1
   omega
  simp [rd_def, e1, fg, fy, tok, DC_of hcall, hjd, endK_ret]
  unfold pairQ back
  rw [if_neg (by simp; omega)]
  refine ⟨rfl, by simp only; omega, by simp only; omega, by simp, (SubX.refl _ _ _ _ _ _).set (by omega) _, set_ne hD.i d4, set_ne hD.k d7, ?_, ?_, ?_⟩
  ·obtain ⟨cs, r1, r2, r3⟩ := hD.b1
   exact ⟨cs, set_ne r1 d9, r2, fun q hq => by
    obtain ⟨b, s, y1, y2, y3⟩ := r3 q hq
    exact ⟨b, s, y1, y2, set_ne y3 y2⟩⟩
  ·obtain ⟨cs, r1, r2, r3⟩ := hD.b2
   exact ⟨cs, set_ne r1 d10, r2, fun q hq => by
    obtain ⟨b, s, y1, y2, y3⟩ := r3 q hq
    exact ⟨b, s, y1, y2, set_ne y3 y2⟩⟩
  ·simp only [cntV]
   exact set_self hD.o
 | succ m ih =>
  intro h im c hm him hs hlen hD hc0 hc1
  refine hE.fnC (body := rb189) rfl ?_
  unfold rb189
  have hF := hfix h hs hlen
  obtain ⟨vr, fg⟩ := hF.g
  have e1 := hD.i
  obtain ⟨g, hg⟩ : ∃ g, g = im.length := ⟨_, rfl⟩
  rw [← hg] at e1 hm him ⊢
  have hgn : g < gens := by omega
  have hgne : ¬ g = gens := by omega
  have hgne' : ¬ (g : Int) = gens := by omega
  have fa := hF.a
  simp [rd_def, e1, fg, hgne, hgne', fa]
  have hcv : cntV n (permL n) rels (m + 1) im = cntI n (permL n) rels m im (permL n).length := rfl
  rw [hcv]
  refine DW_loop (fun kk fr st => ∃ (i : Nat) (h' : List O) (f' gl : Nat), i + kk = (permL n).length ∧ st = ⟨h', f'⟩ ∧ base ≤ f' ∧ f' ≤ h.length ∧ h.length ≤ h'.length ∧ SubX pI pK B1 B2 pO h h' ∧ DynI h' pI pK B1 B2 pO n gens gl (c + cntI n (permL n) rels m im i) im ∧
   get fr 0 = .pointer (some ⟨pI, 0, none⟩) ∧ get fr 4 = .pointer (some ⟨pK, 0, none⟩) ∧ get fr 5 = .pointer (some ⟨pR, 0, none⟩) ∧ get fr 6 = .pointer (some ⟨pN, 0, none⟩) ∧ get fr 7 = .pointer (some ⟨pV, 0, none⟩) ∧ get fr 9 = .int .i64 g ∧ get fr 22 = .slice aa (permL n).length (permL n).length ∧ get fr 23 = .int .i64 (permL n).length ∧ get fr 24 = .int .i64 i) ?_ (k := (permL n).length) ?_
  ·rintro kk fr st ⟨i, h', f', gl, hik, rfl, hf1, hf2, hlen', hX, hD', g0, g4, g5, g6, g7, g9, g22, g23, g24⟩
   have hX' : SubX pI pK B1 B2 pO hV h' := hs.trans hX
   have i1 := hD'.i
   have i2 := hD'.k
   obtain ⟨c1, x1, x2, x3⟩ := hD'.b1
   obtain ⟨c2, y1, y2, y3⟩ := hD'.b2
   by_cases hi : i < (permL n).length
   ·have hw : IntKind.i64.wrap ((i : Int) + 1) = (i : Int) + 1 := by
     rw [w64_id]
     ·omega
     ·have := visL_le n n []
      have h1 : n ^ n ≤ 6 ^ n := Nat.pow_le_pow_left hn.2 n
      have h2 : 6 ^ n ≤ 6 ^ 6 := Nat.pow_le_pow_right (by omega) hn.2
      have h3 : (permL n).length ≤ n ^ n := this
      omega
    obtain ⟨b, b', rfl, r1, r2, r3⟩ := (hfix h' hX' (by omega)).rows i hi
    obtain ⟨f, hf⟩ : ∃ f, f = nthR (permL n) i := ⟨_, rfl⟩
    have hfp : PermL n f := by rw [hf]; exact hPerm i hi
    rw [← hf] at r3
    have hbB : ∀ (q : Nat) (cs cs' : List Value) (s s' : Option Nat) (e : TypeId), h'[q]? = some (.cells cs 3 s) → ∀ p, h'[p]? = some (.cells cs' e s') → e ≠ 3 → q ≠ p := fun q cs cs' s s' e hq p hp hne hqp => by
     subst hqp; rw [hp] at hq; simp at hq; exact hne hq.2.1
    have n1 : b' ≠ B1 := hbB _ _ _ _ _ _ r3 _ x1 (by decide)
    have n2 : b' ≠ B2 := hbB _ _ _ _ _ _ r3 _ y1 (by decide)
    have n3 : b' ≠ pI := hbB _ _ _ _ _ _ r3 _ i1 (by decide)
    have n4 : b' ≠ pK := hbB _ _ _ _ _ _ r3 _ i2 (by decide)
    have sl1 := slice_pre (gl := gl) (c := gens) (g := g) x1 (by omega)
    have lB1 := (List.getElem?_eq_some_iff.1 x1).1
    have lB2 := (List.getElem?_eq_some_iff.1 y1).1
    have lpI := (List.getElem?_eq_some_iff.1 i1).1
    have lpK := (List.getElem?_eq_some_iff.1 i2).1
    have lb' := (List.getElem?_eq_some_iff.1 r3).1
    have lpO := (List.getElem?_eq_some_iff.1 hD'.o).1
    obtain ⟨H1, hH1⟩ : ∃ H1, H1 = h' ++ [O.cells [.slice (some ⟨b', 0, none⟩) n n] 34 (some 0)] := ⟨_, rfl⟩
    have l1 : H1.length = h'.length + 1 := by rw [hH1]; simp
    have K1 : ∀ (b : Nat) (o : O), h'[b]? = some o → H1[b]? = some o := fun b o hb => by rw [hH1]; exact app_of hb _
    have hx1 : rdN H1 h'.length 0 1 = some [.slice (some ⟨b', 0, none⟩) n n] := by rw [hH1]; simp [rdN_at0]
    have happ1 := append_fit (el := 34) (bytes := 24) (k := g) (c := gens) (fl := f') (K1 _ _ x1) (by omega) (by omega) (by rfl) hx1
    obtain ⟨H2, hH2⟩ : ∃ H2, H2 = H1.set B1 (.cells (c1.set g (.slice (some ⟨b', 0, none⟩) n n)) 34 (some 0)) := ⟨_, rfl⟩
    rw [← hH2] at happ1
    have l2 : H2.length = h'.length + 1 := by rw [hH2, List.length_set, l1]
    have K2 : ∀ (b : Nat) (o : O), h'[b]? = some o → b ≠ B1 → H2[b]? = some o := fun b o hb hn => by rw [hH2]; exact set_ne (K1 _ _ hb) hn
    have r3' := K2 _ _ r3 n1
    have hInt : Ints H2 (.slice (some ⟨b', 0, none⟩) n n) f := by
     refine ⟨_, b', 0, n, by rw [hfp.len], fun _ => rfl, fun j hj => by rw [rd_def, r3', Nat.zero_add]; exact intsC_get hj, fun j => ?_, by rw [hfp.len]; omega⟩
     by_cases hj : j < f.length
     ·have := hfp.rng j hj
      constructor <;> omega
     ·rw [nth_ge (by omega)]; constructor <;> omega
    have hinv := inverse_ hE hInt (by rw [hfp.len]; exact hfp.rng) (by rw [hfp.len]; omega)
    rw [hfp.len] at hinv
    obtain ⟨H3, hH3⟩ : ∃ H3, H3 = H2 ++ [O.cells (intsC (invL f)) 3 (some 0)] := ⟨_, rfl⟩
    rw [← hH3] at hinv
    have l3 : H3.length = H2.length + 1 := by rw [hH3]; simp
    obtain ⟨H4, hH4⟩ : ∃ H4, H4 = H3 ++ [O.cells [.slice (some ⟨H2.length, 0, none⟩) n n] 34 (some 0)] := ⟨_, rfl⟩
    have l4 : H4.length = H3.length + 1 := by rw [hH4]; simp
    have K4 : ∀ (b : Nat) (o : O), h'[b]? = some o → b ≠ B1 → H4[b]? = some o := fun b o hb hn => by rw [hH4, hH3]; exact app_of (app_of (K2 _ _ hb hn) _) _
    have hx4 : rdN H4 H3.length 0 1 = some [.slice (some ⟨H2.length, 0, none⟩) n n] := by rw [hH4]; simp [rdN_at0]
    have happ2 := append_fit (el := 34) (bytes := 24) (k := g) (c := gens) (fl := min f' B1) (K4 _ _ y1 (Ne.symm d8)) (by omega) (by omega) (by rfl) hx4
    obtain ⟨H5, hH5⟩ : ∃ H5, H5 = H4.set B2 (.cells (c2.set g (.slice (some ⟨H2.length, 0, none⟩) n n)) 34 (some 0)) := ⟨_, rfl⟩
    rw [← hH5] at happ2
    have K5 : ∀ (b : Nat) (o : O), h'[b]? = some o → b ≠ B1 → b ≠ B2 → H5[b]? = some o := fun b o hb hn hn2 => by rw [hH5]; exact set_ne (K4 _ _ hb hn) hn2
    have j1 := K5 _ _ i1 d2 d3
    have j2 := K5 _ _ i2 d5 d6
    have i2' := K2 _ _ i2 d5
    have sl2 := slice_pre (gl := gl) (c := gens) (g := g) (K2 _ _ y1 (Ne.symm d8)) (by omega)
    obtain ⟨H6, hH6⟩ : ∃ H6, H6 = H5.set pI (.cells [.slice (some ⟨B1, 0, none⟩) (g + 1) gens] 48 (some 0)) := ⟨_, rfl⟩
    have j2' : H6[pK]? = some (.cells [.slice (some ⟨B2, 0, none⟩) gl gens] 48 (some 0)) := by rw [hH6]; exact set_ne j2 (Ne.symm d1)
    obtain ⟨H7, hH7⟩ : ∃ H7, H7 = H6.set pK (.cells [.slice (some ⟨B2, 0, none⟩) (g + 1) gens] 48 (some 0)) := ⟨_, rfl⟩
    have l7 : H7.length = h'.length + 3 := by rw [hH7, List.length_set, hH6, List.length_set, hH5, List.length_set]; omega
    have K7 : ∀ (b : Nat) (o : O), h'[b]? = some o → b ≠ pI → b ≠ pK → b ≠ B1 → b ≠ B2 → H7[b]? = some o := fun b o hb m1 m2 m3 m4 => by rw [hH7, hH6]; exact set_ne (set_ne (K5 _ _ hb m3 m4) m1) m2
    have hX7 : SubX pI pK B1 B2 pO h H7 := hX.trans fun b o hb m1 m2 m3 m4 _ => K7 b o hb m1 m2 m3 m4
    have hF7 := hfix H7 (hs.trans hX7) (by omega)
    have q1 : H7[pI]? = some (.cells [.slice (some ⟨B1, 0, none⟩) (g + 1) gens] 48 (some 0)) := by rw [hH7, hH6]; exact set_ne (set_self j1) d1
    have q2 : H7[pK]? = some (.cells [.slice (some ⟨B2, 0, none⟩) (g + 1) gens] 48 (some 0)) := by rw [hH7]; exact set_self j2'
    have q3 : H7[B1]? = some (.cells (c1.set g (.slice (some ⟨b', 0, none⟩) n n)) 34 (some 0)) := by
     rw [hH7, hH6, hH5, hH4, hH3]
     refine set_ne (set_ne (set_ne (app_of (app_of ?_ _) _) d8) (Ne.symm d2)) (Ne.symm d5)
     rw [hH2]; exact set_self (K1 _ _ x1)
    have q4 : H7[B2]? = some (.cells (c2.set g (.slice (some ⟨H2.length, 0, none⟩) n n)) 34 (some 0)) := by
     rw [hH7, hH6]
     refine set_ne (set_ne ?_ (Ne.symm d3)) (Ne.symm d6)
     rw [hH5]; exact set_self (K4 _ _ y1 (Ne.symm d8))
    have q5 : H7[H2.length]? = some (O.cells (intsC (invL f)) 3 (some 0)) := by
     rw [hH7, hH6, hH5, hH4]
     refine set_ne (set_ne (set_ne (app_of ?_ _) (by omega)) (by omega)) (by omega)
     rw [hH3, app_at0]; rfl
    have hkint : ∀ b' cs' s', h'[b']? = some (.cells cs' 3 (some s')) → b' ≠ pO → H7[b']? = some (.cells cs' 3 (some s')) := fun p cs' s' hp _ => K7 _ _ hp (hbB _ _ _ _ _ _ hp _ i1 (by decide)) (hbB _ _ _ _ _ _ hp _ i2 (by decide)) (hbB _ _ _ _ _ _ hp _ x1 (by decide)) (hbB _ _ _ _ _ _ hp _ y1 (by decide))
    have hiA : (invA im).length = g := by rw [invA_length]; exact hg.symm
    have R1 : RowsB H7 B1 gens n pO (im ++ [f]) := RowsB.add x1 x2 x3 (by omega) (by rw [← hg]; exact q3) hkint r2 (hkint _ _ _ r3 r2)
    have R2 : RowsB H7 B2 gens n pO (invA im ++ [invL f]) := RowsB.add y1 y2 y3 (by omega) (by rw [hiA]; exact q4) hkint (by omega) q5
    rw [← invA_snoc] at R2
    have hlen1 : (im ++ [f]).length = g + 1 := by simp; omega
    have hD7 : DynI H7 pI pK B1 B2 pO n gens (im ++ [f]).length (c + cntI n (permL n) rels m im i) (im ++ [f]) := ⟨by rw [hlen1]; exact q1, by rw [hlen1]; exact q2, R1, R2, K7 _ _ hD'.o (Ne.symm d4) (Ne.symm d7) (Ne.symm d9) (Ne.symm d10)⟩
    have him7 : ∀ q, q < (im ++ [f]).length → PermL n (nthR (im ++ [f]) q) := fun q hq => by
     rw [nthR_snoc]
     by_cases e : q < im.length
     ·rw [if_pos e]; exact him q (by omega)
     ·rw [if_neg e, if_pos (by omega)]; exact hfp
    have himI : ∀ q, q < (invA (im ++ [f])).length → PermL n (nthR (invA (im ++ [f])) q) := fun q hq => by
     rw [invA_length] at hq
     rw [invA_at hq]
     exact (him7 q hq).inv
    have hM1 := R1.mat him7 ⟨by omega, by omega⟩
    have hM2 := R2.mat himI ⟨by rw [invA_length]; omega, by omega⟩
    rw [hlen1] at hM1
    rw [invA_length, hlen1] at hM2
    have hAsk : AskI H7 pI pK pN n (im ++ [f]) (invA (im ++ [f])) := ⟨⟨_, q1, hM1⟩, ⟨_, q2, hM2⟩, hF7.n_, fun k hk => ⟨(him7 k hk).len, (him7 k hk).rng⟩, fun k hk => ⟨(himI k hk).len, (himI k hk).rng⟩, invA_length _, by omega, by omega⟩
    obtain ⟨Rb, rv, f1, f2, f3⟩ := hF7.r
    obtain ⟨vr2, f4, f5⟩ := f3 (g + 1) (by omega)
    have hLet : ∀ i, i < (readyL rels (g + 1)).length → LetOk (im ++ [f]).length (nthR (readyL rels (g + 1)) i) := fun j hj => by
     obtain ⟨m1, m2⟩ := List.mem_filter.1 (show nthR (readyL rels (g + 1)) j ∈ rels.filter (fun r => lastW r == g + 1) from nthR_mem hj)
     have hlw : lastW (nthR (readyL rels (g + 1)) j) = g + 1 := by simpa using m2
     have h := hlet _ m1
     rw [hlw] at h
     rw [hlen1]
     exact h
    have hrl : (readyL rels (g + 1)).length < 1000000 := by
     have : (readyL rels (g + 1)).length ≤ rels.length := List.length_filter_le _ _
     omega
    have hct := containsF_ hE hAsk f5 hLet hrl
    have hgood : (∀ i, i < (readyL rels (g + 1)).length → TrivL (im ++ [f]) (invA (im ++ [f])) (nthR (readyL rels (g + 1)) i) n) ↔ GoodA n rels (im ++ [f]) := by unfold GoodA; rw [hlen1]; exact Iff.rfl
    have hwg : IntKind.i64.wrap ((g : Int) + 1) = (g : Int) + 1 := by rw [w64_id] <;> omega
    simp only [askV] at hct
    have hg1 : (g : Int) + 1 < (gens : Int) + 1 := by omega
    have hg0 : (0 : Int) ≤ (g : Int) + 1 := by omega
    have hgt : ((g : Int) + 1).toNat = g + 1 := by omega
    have hcI : cntI n (permL n) rels m im (i + 1) = cntI n (permL n) rels m im i + (if GoodA n rels (im ++ [f]) then cntV n (permL n) rels m (im ++ [f]) else 0) := by rw [hf]; rfl
    by_cases hG : GoodA n rels (im ++ [f])
    ·rw [decide_eq_true (hgood.2 hG)] at hct
     have hfv := hF7.v
     simp only [visV2] at hfv
     simp [g0, g4, g5, g6, g7, g9, g22, g23, g24, hi, rd_def, r1, i1, sl1, ← hH1, happ1, i2', sl2, DC_of hinv, ← hH4, happ2, bit, wrN_def, j1, ← hH6, j2', ← hH7, f1, f2, f4, hwg, hg1, hg0, hgt, DC_of hct, hfv, -List.length_append]
     have hvle := cntI_le n (permL n) rels m im i
     have hmul : (i + 1) * (permL n).length ^ m ≤ (permL n).length * (permL n).length ^ m := Nat.mul_le_mul_right _ (by omega)
     rw [Nat.succ_mul] at hmul
     rw [Nat.pow_succ, Nat.mul_comm ((permL n).length ^ m)] at hc1
     refine ⟨Ne.symm d5, d8, (ih (h := H7) (im := im ++ [f]) (c := c + cntI n (permL n) rels m im i) (by rw [hlen1]; omega) him7 (hs.trans hX7) (by omega) hD7 (by omega) (by omega)).imp ?_⟩
     rintro o ⟨h8, f8⟩ ⟨rfl, p1, p2, p3, p4, p5⟩
     simp only at p1 p2 p3 p4 p5
     have hj8 : ∀ F, joined ⟨H7, F⟩ ⟨h8, f8⟩ = ⟨h8, min F f8⟩ := fun F => by simp only [joined]; rw [if_pos (by omega)]
     simp [hj8, g0, g4, g5, g6, g7, g9, g22, g23, g24, hw]
     rw [hlen1] at p5
     refine ⟨kk - 1, by omega, i + 1, by omega, h8, _, ⟨rfl, rfl⟩, by omega, by omega, by omega, hX7.trans p4, ⟨g + 1, p5.i, p5.k, p5.b1.less, ?_, ?_⟩, by omega⟩
     ·have := p5.b2
      rw [invA_snoc] at this
      exact this.less
     ·rw [hcI, if_pos hG]
      have := p5.o
      rw [show (c + ((cntI n (permL n) rels m im i + cntV n (permL n) rels m (im ++ [f]) : Nat) : Int)) = c + (cntI n (permL n) rels m im i : Int) + (cntV n (permL n) rels m (im ++ [f]) : Int) by omega]
      exact this
    ·rw [decide_eq_false (fun h => hG (hgood.1 h))] at hct
     simp [g0, g4, g5, g6, g7, g9, g22, g23, g24, hi, rd_def, r1, i1, sl1, ← hH1, happ1, i2', sl2, DC_of hinv, ← hH4, happ2, bit, wrN_def, j1, ← hH6, j2', ← hH7, f1, f2, f4, hwg, hg1, hg0, hgt, DC_of hct, hw, -List.length_append]
     refine ⟨Ne.symm d5, d8, kk - 1, by omega, i + 1, by omega, H7, _, ⟨rfl, rfl⟩, by omega, by omega, by omega, hX7, ⟨g + 1, q1, q2, R1.less, ?_, ?_⟩, by omega⟩
     ·rw [invA_snoc] at R2
      exact R2.less
     ·rw [hcI, if_neg hG]
      exact hD7.o
   ·have hin : i = (permL n).length := by omega
    subst hin
    have sl1 := slice_pre (gl := gl) (c := gens) (g := g) x1 (by omega)
    have sl2 := slice_pre (gl := gl) (c := gens) (g := g) y1 (by omega)
    have i2' := fun o => set_ne (x := o) i2 (Ne.symm d1)
    simp [g0, g4, g5, g6, g7, g9, g22, g23, g24, rd_def, i1, i2, sl1, sl2, bit, wrN_def, i2', d1, Ne.symm d1, d2, d3, d5, d6, Ne.symm d2, Ne.symm d3, Ne.symm d5, Ne.symm d6, endK_ret]
    unfold pairQ back
    rw [if_neg (by simp; omega)]
    have lpI := (List.getElem?_eq_some_iff.1 i1).1
    have hkint : ∀ (b' : Nat) cs' s', h'[b']? = some (O.cells cs' 3 (some s')) → b' ≠ pI ∧ b' ≠ pK := fun p cs' s' hp => by
     constructor
     ·intro e; subst e; rw [hp] at i1; simp at i1
     ·intro e; subst e; rw [hp] at i2; simp at i2
    refine ⟨rfl, by simp only; omega, by simp only; omega, by simp; exact hlen', (hX.set (by omega) _).set (by omega) _, set_ne (set_self i1) d1, set_self (set_ne i2 (Ne.symm d1)), hD'.b1.keep (fun cs e => set_ne (set_ne e (Ne.symm d2)) (Ne.symm d5)) (fun p cs' s' hp _ => set_ne (set_ne hp (hkint _ _ _ hp).1) (hkint _ _ _ hp).2), hD'.b2.keep (fun cs e => set_ne (set_ne e (Ne.symm d3)) (Ne.symm d6)) (fun p cs' s' hp _ => set_ne (set_ne hp (hkint _ _ _ hp).1) (hkint _ _ _ hp).2), set_ne (set_ne hD'.o (Ne.symm d4)) (Ne.symm d7)⟩
  ·exact ⟨0, h, h.length, g, by omega, rfl, by omega, Nat.le_refl _, Nat.le_refl _, SubX.refl _ _ _ _ _ _, by simpa [cntI, sumNat, ← hg] using hD, by simp⟩
end Go.Proofs.Ytjlkndkedknocaa
namespace Go.Ai
theorem readyL_snoc (R : List (List Int)) (r : List Int) (j : Nat) : readyL (R ++ [r]) j = if lastW r = j then readyL R j ++ [r] else readyL R j := by
 unfold readyL
 rw [List.filter_append]
 by_cases h : lastW r = j
 ·rw [if_pos h]; simp [h]
 ·rw [if_neg h]; simp [h]
theorem readyL_le (R : List (List Int)) (j : Nat) : (readyL R j).length ≤ R.length := List.length_filter_le _ _
theorem lastW_take {w : List Int} {i : Nat} (h : i < w.length) : lastW (w.take (i + 1)) = max (lastW (w.take i)) (nth w i).natAbs := by
 unfold lastW
 rw [List.take_add_one, List.getElem?_eq_getElem h, List.foldl_append, nth_eq h]
 rfl
end Go.Ai
namespace Go.Proofs.Ytjlkndkedknocaa
open Go Go.Ai
attribute [local instance] Classical.propDecidable
def ReadyS (hb h : List O) (lo : Nat) (v : Value) (R : List (List Int)) : Prop :=
 ∃ ws, OwnS h lo v R.length ws 34 1 ∧ ∀ q, q < R.length → ∃ w, ws[q]? = some w ∧ Ints hb w (nthR R q)
theorem ReadyS.mat {hb h : List O} {lo : Nat} {v : Value} {R : List (List Int)} (k : ReadyS hb h lo v R) (hs : ∀ w xs, Ints hb w xs → Ints h w xs) (hl : R.length < 2 ^ 62) : Mat h v R := by
 obtain ⟨ws, ⟨h1, h2⟩, h3⟩ := k
 rcases h2 with ⟨rfl, h0⟩ | ⟨b, s, rfl, hb, hc, _⟩
 ·have : R = [] := List.length_eq_zero_iff.1 h0
  subst this
  exact ⟨none, 0, 0, 0, fun _ => undef, rfl, fun h => absurd h (by simp), fun i hi => absurd hi (by simp), by simp⟩
 ·refine ⟨_, b, 0, R.length, fun q => (ws[q]?).getD undef, rfl, fun _ => rfl, fun q hq => ?_, hl⟩
  obtain ⟨w, r1, r2⟩ := h3 q hq
  exact ⟨by rw [rd_def, hc, Nat.zero_add]; simp [r1], by simp only [r1, Option.getD_some]; exact hs _ _ r2⟩
theorem ReadyS.keep {hb h h' : List O} {lo : Nat} {v : Value} {R : List (List Int)} (k : ReadyS hb h lo v R) (hk : ∀ b n c, v = .slice (some ⟨b, 0, none⟩) n c → lo ≤ b → ∀ o, h[b]? = some o → h'[b]? = some o) : ReadyS hb h' lo v R := by
 obtain ⟨ws, h1, h3⟩ := k
 refine ⟨ws, h1.keep fun b s e1 e2 => ?_, h3⟩
 rcases h1.2 with ⟨z1, _⟩ | ⟨b2, s2, z1, z2, z3, _⟩
 ·rw [z1] at e1; cases e1
 ·have e1' := e1
  rw [z1] at e1
  simp only [Value.slice.injEq, Option.some.injEq, Addr.mk.injEq] at e1
  exact hk b _ _ e1' (by omega) _ e2
structure RdI (hb h : List O) (lo Rb gens : Nat) (R : List (List Int)) (rv : List Value) : Prop where
 at_ : h[Rb]? = some (.cells rv 48 (some 0))
 len : rv.length = gens + 1
 lt : Rb < lo
 lo_ : lo ≤ h.length
 each : ∀ j, j < gens + 1 → ∃ v, rv[j]? = some v ∧ ReadyS hb h lo v (readyL R j)
 apart : ∀ (j j' b n c n' c' : Nat), j ≠ j' → rv[j]? = some (Value.slice (some ⟨b, 0, none⟩) n c) → rv[j']? = some (Value.slice (some ⟨b, 0, none⟩) n' c') → False
theorem ReadyS.blk {hb h : List O} {lo : Nat} {v : Value} {R : List (List Int)} (k : ReadyS hb h lo v R) : (v = .slice none 0 0 ∧ R = []) ∨ ∃ b, v = .slice (some ⟨b, 0, none⟩) R.length R.length ∧ lo ≤ b ∧ b < h.length := by
 obtain ⟨ws, ⟨h1, h2⟩, h3⟩ := k
 rcases h2 with ⟨rfl, h0⟩ | ⟨b, s, rfl, hb, hc, _⟩
 ·exact .inl ⟨rfl, List.length_eq_zero_iff.1 h0⟩
 ·exact .inr ⟨b, rfl, hb, (List.getElem?_eq_some_iff.1 hc).1⟩
theorem RdI.add {hb h : List O} {lo Rb gens fl : Nat} {R : List (List Int)} {rv : List Value} {r : List Int} {w : Value} (hI : RdI hb h lo Rb gens R rv) (hw : Ints hb w r) (hw1 : one1 w = true) (hl : lastW r < gens + 1) (hR : R.length ≤ 100000) :
  ∃ v, rv[lastW r]? = some v ∧ (v = .slice none 0 0 ∨ ∃ b n, v = .slice (some ⟨b, 0, none⟩) n n ∧ lo ≤ b) ∧ ∃ b' n' H4 f4, appendV 34 1 24 v (.slice (some ⟨h.length, 0, none⟩) 1 1) ⟨h ++ [.cells [w] 34 (some 0)], fl⟩ = some (.slice (some ⟨b', 0, none⟩) n' n', ⟨H4, f4⟩) ∧ min fl lo ≤ f4 ∧ f4 ≤ fl ∧
   (∀ (b : Nat) (o : O), b < lo → h[b]? = some o → H4[b]? = some o) ∧ h.length ≤ H4.length ∧
   RdI hb (H4.set Rb (.cells (rv.set (lastW r) (.slice (some ⟨b', 0, none⟩) n' n')) 48 (some 0))) lo Rb gens (R ++ [r]) (rv.set (lastW r) (.slice (some ⟨b', 0, none⟩) n' n')) := by
 obtain ⟨v, hv, hS⟩ := hI.each _ hl
 have hblk := hS.blk
 have hS' := hS
 obtain ⟨ws, hown0, hrows⟩ := hS'
 have hread : readSlice (h ++ [.cells [w] 34 (some 0)]) 1 1 (some ⟨h.length, 0, none⟩) = some [w] := by simp [readSlice, rdN_at0]
 have hrl := readyL_le R (lastW r)
 have hlo := hI.lo_
 obtain ⟨b', H4, f4, happ, hb', hown, hf1, hf2, hL4, K4⟩ := append_S (fl := fl) (c := 1) (bytes := 24) (hown0.ext (Ext.snoc h [.cells [w] 34 (some 0)])) hread (by simp) (by simp [hw1]) (by simp; omega) (by simp only [roomMax]; omega) (by omega)
 have hbase : ∀ (b : Nat) (o : O), (∀ n c, v ≠ .slice (some ⟨b, 0, none⟩) n c) → h[b]? = some o → H4[b]? = some o := fun b o hn hb => K4 b o (app_of hb _) hn
 have hlow : ∀ b, b < lo → ∀ n c, v ≠ .slice (some ⟨b, 0, none⟩) n c := fun b hb n c e => by
  rcases hblk with ⟨z, _⟩ | ⟨b2, z, z2, _⟩
  ·rw [z] at e; cases e
  ·rw [z] at e
   simp only [Value.slice.injEq, Option.some.injEq, Addr.mk.injEq] at e
   omega
 have hRb := hI.lt
 have hb'' : h.length + 1 ≤ b' := by simpa using hb'
 have hL4' : h.length + 1 ≤ H4.length := by simpa using hL4
 refine ⟨v, hv, ?_, b', _, H4, f4, happ, hf1, hf2, fun b o hb ho => hbase b o (hlow b hb) ho, by omega, ?_⟩
 ·rcases hblk with ⟨z, _⟩ | ⟨b2, z, z2, _⟩
  ·exact .inl z
  ·exact .inr ⟨b2, _, z, z2⟩
 refine ⟨set_self (hbase _ _ (hlow _ hRb) hI.at_), by simp [hI.len], hRb, by simp; omega, fun j hj => ?_, fun j j' b n c n' c' hne e1 e2 => ?_⟩
 ·rw [readyL_snoc]
  by_cases e : j = lastW r
  ·rw [e, if_pos rfl]
   refine ⟨_, List.getElem?_set_self (by rw [hI.len]; exact hl), ws ++ [w], ?_, fun q hq => ?_⟩
   ·have : OwnS H4 lo (.slice (some ⟨b', 0, none⟩) ((readyL R (lastW r)).length + 1) ((readyL R (lastW r)).length + 1)) (readyL R (lastW r) ++ [r]).length (ws ++ [w]) 34 1 := by simpa using hown
    exact this.keep fun b s z1 z2 => set_ne z2 (by simp at z1; omega)
   ·have hwl : ws.length = (readyL R (lastW r)).length := by have := hown0.1; omega
    simp at hq
    by_cases eq : q < (readyL R (lastW r)).length
    ·obtain ⟨w', r1, r2⟩ := hrows q eq
     refine ⟨w', by rw [List.getElem?_append_left (by omega)]; exact r1, ?_⟩
     rw [nthR_snoc, if_pos eq]; exact r2
    ·have eq2 : q = (readyL R (lastW r)).length := by omega
     refine ⟨w, by rw [List.getElem?_append_right (by omega), hwl, eq2]; simp, ?_⟩
     rw [nthR_snoc, if_neg eq, if_pos eq2]; exact hw
  ·rw [if_neg (Ne.symm e)]
   obtain ⟨v2, q1, q2⟩ := hI.each j hj
   refine ⟨v2, by rw [List.getElem?_set_ne (Ne.symm e)]; exact q1, q2.keep fun b n c z1 z2 o z3 => set_ne (hbase b o (fun n' c' z4 => ?_) z3) (by omega)⟩
   rw [z1] at q1
   rw [z4] at hv
   exact hI.apart j (lastW r) b n c n' c' e q1 hv
 ·have hnew : ∀ j b n c, j ≠ lastW r → rv[j]? = some (.slice (some ⟨b, 0, none⟩) n c) → b < h.length := fun j b n c hj hz => by
   have hjl := (List.getElem?_eq_some_iff.1 hz).1
   rw [hI.len] at hjl
   obtain ⟨v2, q1, q2⟩ := hI.each j hjl
   rw [hz] at q1
   obtain rfl := Option.some.inj q1
   rcases q2.blk with ⟨z, _⟩ | ⟨b2, z, _, z2⟩
   ·cases z
   ·simp only [Value.slice.injEq, Option.some.injEq, Addr.mk.injEq] at z
    omega
  by_cases ej : j = lastW r
  ·rw [ej, List.getElem?_set_self (by rw [hI.len]; exact hl)] at e1
   simp only [Option.some.injEq, Value.slice.injEq, Addr.mk.injEq] at e1
   rw [List.getElem?_set_ne (by omega)] at e2
   have := hnew j' b n' c' (by omega) e2
   omega
  ·rw [List.getElem?_set_ne (Ne.symm ej)] at e1
   by_cases ej' : j' = lastW r
   ·rw [ej', List.getElem?_set_self (by rw [hI.len]; exact hl)] at e2
    simp only [Option.some.injEq, Value.slice.injEq, Addr.mk.injEq] at e2
    have := hnew j b n c ej e1
    omega
   ·rw [List.getElem?_set_ne (Ne.symm ej')] at e2
    exact hI.apart j j' b n c n' c' hne e1 e2
end Go.Proofs.Ytjlkndkedknocaa
namespace Go.Ai
theorem DC.kept {E : Env} (hS : SumsKept E) {f : FuncId} {args : List Value} {st : St} {Q : Out → St → Prop} (h : DC E f args st Q) : DC E f args st fun o st' => Q o st' ∧ Kept st st' := by
 obtain ⟨o, st', ⟨n, h1⟩, h2⟩ := h
 exact ⟨o, st', ⟨n, h1⟩, h2, callKept_of hS (exec_kept hS n) _ _ _ _ _ h1⟩
theorem visL_perm {n : Nat} : ∀ (m : Nat) (f : List Int), f.length + m = n → InN n f → (∀ i j, i < j → j < f.length → nth f i ≠ nth f j) → ∀ g ∈ visL n m f, PermL n g := by
 intro m
 induction m with
 | zero =>
  intro f hl hi hd g hg
  simp only [visL, List.mem_singleton] at hg
  subst hg
  exact ⟨by omega, hi, fun i j h1 h2 => hd i j h1 (by omega)⟩
 | succ m ih =>
  intro f hl hi hd g hg
  simp only [visL, List.mem_flatMap, List.mem_range] at hg
  obtain ⟨x, hx, hg⟩ := hg
  split at hg
  ·simp at hg
  ·rename_i hnot
   have hs : ∀ i, nth (f ++ [(x : Int)]) i = if i < f.length then nth f i else if i = f.length then (x : Int) else 0 := fun i => by
    unfold nth
    by_cases h : i < f.length
    ·rw [if_pos h]; simp [List.getD_eq_getElem?_getD, List.getElem?_append_left h]
    ·rw [if_neg h, List.getD_eq_getElem?_getD, List.getElem?_append_right (by omega)]
     by_cases e : i = f.length
     ·rw [if_pos e, e]; simp
     ·rw [if_neg e, List.getElem?_eq_none (by simp; omega)]; rfl
   refine ih _ (by simp; omega) (fun i hi' => ?_) (fun i j h1 h2 => ?_) g hg
   ·rw [hs]
    simp at hi'
    by_cases h : i < f.length
    ·rw [if_pos h]; exact hi i h
    ·rw [if_neg h, if_pos (by omega)]; omega
   ·simp at h2
    rw [hs, hs, if_pos (by omega)]
    by_cases h : j < f.length
    ·rw [if_pos h]; exact hd i j h1 h
    ·rw [if_neg h, if_pos (by omega)]
     intro e
     exact hnot (e ▸ nth_mem (by omega))
theorem permL_perm {n q : Nat} (h : q < (permL n).length) : PermL n (nthR (permL n) q) :=
 visL_perm n [] (by simp) (fun i hi => by simp at hi) (fun i j _ h => by simp at h) _ (nthR_mem h)
theorem permL_le {n : Nat} (hn : n ≤ 6) : (permL n).length ≤ 46656 := by
 have h0 := visL_le n n []
 have h1 : n ^ n ≤ 6 ^ n := Nat.pow_le_pow_left hn n
 have h2 : 6 ^ n ≤ 6 ^ 6 := Nat.pow_le_pow_right (by omega) hn
 have h3 : (permL n).length ≤ n ^ n := h0
 omega
end Go.Ai
namespace Go.Proofs.Ytjlkndkedknocaa
open Go Go.Ai
attribute [local instance] Classical.propDecidable
variable {E : Env} (hE : OE E)
include hE
theorem round57 {h : List O} {k pO : Nat} {frL : Fr} {v : Value} {c : Int} (hk : h[k]? = some (.loop false 43 frL [39] (lcA 57 0) (lcB 57 0))) (g9 : get frL 9 = .pointer (some ⟨pO, 0, none⟩)) (hO : h[pO]? = some (.cells [.int .i64 c] 3 (some 0))) (hc : 0 ≤ c ∧ c ≤ 10000000000) :
  DR E (yB + k) [v] ⟨h, h.length⟩ (.ret (.bool true)) ⟨h.set pO (.cells [.int .i64 (c + 1)] 3 (some 0)), min pO k⟩ := by
 have n1 : k ≠ pO := fun e => by subst e; rw [hk] at hO; cases hO
 have lk := (List.getElem?_eq_some_iff.1 hk).1
 have lO := (List.getElem?_eq_some_iff.1 hO).1
 have hDC : DC E (yB + k) [v] ⟨h, h.length⟩ fun o st' => o = .ret (.bool true) ∧ st' = ⟨h.set pO (.cells [.int .i64 (c + 1)] 3 (some 0)), min pO k⟩ := by
  refine DC_yield (hE.Y k) hk rfl hE.c57_0a hE.c57_0b ?_
  unfold ra57_0
  simp [putAll]
  refine ⟨_, turn_eq hk, ?_⟩
  unfold rl57_0
  obtain ⟨H1, hH1⟩ : ∃ H, H = h.set k (O.loop (!false) 43 frL [39] (lcA 57 0) (lcB 57 0)) := ⟨_, rfl⟩
  have hO1 : H1[pO]? = some (.cells [.int .i64 c] 3 (some 0)) := by rw [hH1]; exact set_ne hO (Ne.symm n1)
  have hk1 : H1[k]? = some (O.loop (!false) 43 frL [39] (lcA 57 0) (lcB 57 0)) := by rw [hH1]; exact set_self hk
  have hw : IntKind.i64.wrap (c + 1) = c + 1 := by rw [w64_id] <;> omega
  rw [← hH1]
  simp [g9, rd_def, hO1, hw, wrN_def]
  have hk2 : (H1.set pO (.cells [.int .i64 (c + 1)] 3 (some 0)))[k]? = some (O.loop (!false) 43 frL [39] (lcA 57 0) (lcB 57 0)) := set_ne hk1 n1
  have ht := turn_eq (f := min h.length (min k pO)) hk2
  simp only [Bool.not_false, Bool.not_true] at ht
  rw [ht]
  have hm : min (min h.length (min k pO)) k = min pO k := by omega
  rw [hm]
  congr 2
  apply List.ext_getElem?
  intro i
  rw [hH1]
  simp only [List.getElem?_set, List.length_set]
  by_cases e1 : k = i
  ·subst e1
   simp [lk, Ne.symm n1, hk]
   have := (List.getElem?_eq_some_iff.1 hk).2
   exact this.symm
  ·simp [e1]
 obtain ⟨o, st', h1, rfl, rfl⟩ := hDC
 exact h1
end Go.Proofs.Ytjlkndkedknocaa
