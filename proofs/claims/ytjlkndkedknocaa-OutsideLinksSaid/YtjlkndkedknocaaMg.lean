/- Texts that were built one by one: Od28, Od29, Ra12, Ra13, Ra14, Ra15, Ra16, Ra17, Ra18, Ra19, Rk2, Rg1, Wp1, Wa1, Wa2, Wa3, Wa4, Wa5, Wu1, Mi1, Wc1, Mi2, Pg1, Pg2, Pl1, Pl2, Mi3, Mi4, Mi5, Mi6, Ra20. -/
import Derived.Test.YtjlkndkedknocaaMf
import Derived.Test.YtjlkndkedknocaaMe
set_option linter.unusedSimpArgs false
set_option linter.unusedVariables false
namespace Go.Proofs.Ytjlkndkedknocaa
open Go Go.Ai
attribute [local instance] Classical.propDecidable
structure CInv (H h : List O) (n mb v : Nat) (G : Dg) (xs : List Int) (bs : List Bool) (vo : Value) : Prop where
 keep : ∀ (b : Nat) (o : O), H[b]? = some o → b ≠ mb → h[b]? = some o
 met : h[mb]? = some (.cells (boolsC bs) 109 (some 0))
 out : OwnS h H.length vo (cuspL G xs v).length (intsC (cuspL G xs v)) 3 1
structure CQv (H h : List O) (n r k f qb : Nat) (nb : Nat → Nat → Option Nat) (bs0 bs : List Bool) (qs : List Nat) : Prop where
 q : CQ (16 * n) nb r k f bs0 bs qs
 own : OwnS h H.length (.slice (some ⟨qb, 0, none⟩) qs.length qs.length) qs.length (nodesC qs) 110 2
 cnt : qs.length + unm bs ≤ 16 * n
 hd : bnth bs r = true
variable {E : Env} (hE : OE E)
include hE
theorem Cusps_ {h0 : List O} {a : Option Addr} {n c : Nat} {x : Nat → Nat → Int} {s : Nat → Int} {L : Int} (hx : CrossP h0 a n x s) :
  DC E 23 [dV a n c L] ⟨h0, h0.length⟩ fun o st' =>
   (askD n x s L ≠ 0 ∧ o = .ret (.tuple #[.slice none 0 0, .int .i64 (askD n x s L)]) ∧ st' = ⟨h0, h0.length⟩) ∨
   (askD n x s L = 0 ∧ ∃ (xs : List Int) (k : Nat) (v : Value), OrbI (2 * n) (nx (dgOf n x s L)) (2 * n) k xs ∧ o = .ret (.tuple #[v, .int .i64 0]) ∧ h0.length ≤ st'.fl ∧ Sub h0 st'.h ∧
    OwnS st'.h h0.length v (cuspL (dgOf n x s L) xs (16 * n)).length (intsC (cuspL (dgOf n x s L) xs (16 * n))) 3 1) := by
 refine hE.fnC (body := rb23) rfl ?_
 unfold rb23
 obtain ⟨hB, hhB⟩ : ∃ H, H = h0 ++ [O.cells [.slice a n c, .int .i64 L] 24 (some 0)] := ⟨_, rfl⟩
 have hBs : Sub h0 hB := by rw [hhB]; exact (Sub.refl _).app _
 have lB : hB.length = h0.length + 1 := by rw [hhB]; simp
 have hB0 : hB[h0.length]? = some (O.cells [.slice a n c, .int .i64 L] 24 (some 0)) := by rw [hhB, app_at0]; rfl
 have hask := asked_ hE (c := c) (L := L) (hx.sub hBs)
 simp [dV, List.append_assoc, ← hhB, rdN_def, hB0]
 simp only [dV] at hask
 by_cases hk : askD n x s L = 0
 ·obtain ⟨hS, hn, hsz⟩ := ask_pos hk
  have hkd := (ask_zero hk).1
  have hbt := built_ hE (c := c) (hx.sub hBs) hk
  rw [hk] at hask
  simp only [dV] at hbt
  simp [DC_of hask, joined_fl, rdN_def, hB0, hk]
  refine hbt.imp ?_
  rintro o ⟨h1, f1⟩ ⟨p, rfl, hf, hs, hbd⟩
  simp only at hf hs hbd
  simp [joined_fl, hf]
  refine hbd.imp ?_
  rintro o ⟨h2, f2⟩ ⟨fb, rfl, l1, l2, hs2, cs', hatF, hFC⟩
  simp only at l2 hs2 hatF
  have hB2 := hs2 _ _ hB0
  have hl2 := hs2.len
  have hjo : joined ⟨h1, h0.length⟩ ⟨h2, f2⟩ = ⟨h2, h0.length⟩ := by
   simp only [joined]
   split
   ·congr 1; omega
   ·rfl
  obtain ⟨h3, hh3⟩ : ∃ H, H = h2 ++ [O.cells [.slice (some ⟨fb, 0, none⟩) (4 * n) (4 * n)] 29 (some 0)] := ⟨_, rfl⟩
  have hs23 : Sub h2 h3 := by rw [hh3]; exact (Sub.refl _).app _
  have hG3 : h3[h2.length]? = some (O.cells [.slice (some ⟨fb, 0, none⟩) (4 * n) (4 * n)] 29 (some 0)) := by rw [hh3, app_at0]; rfl
  have l3 : h3.length = h2.length + 1 := by rw [hh3]; simp
  have hB3 := hs23 _ _ hB2
  simp [hjo, wrN_at0, set_at0, ← hh3, rdN_def, hB3]
  have hcm := componentsP_ hE (c := c) (L := L) (hx.sub (hBs.trans (hs2.trans hs23))) hkd
  simp only [dV] at hcm
  refine hcm.imp ?_
  rintro o ⟨h4, f4⟩ ⟨cb, k, xs, rfl, hcb, hf4, hs34, hatC, hO, hk2⟩
  simp only at hf4 hs34 hatC
  have hG4 := hs34 _ _ hG3
  have lh4 := hs34.len
  have e1 : (0 : Int) ≤ 4 * n := by omega
  have e2 : 4 * (n : Int) * 4 ≤ 140737488355328 := by omega
  have e3 : 4 * (n : Int) < 4611686018427387904 := by omega
  have e4 : (4 * (n : Int)).toNat = 4 * n := by omega
  have hrep : rep (4 * n) [Value.bool false, .bool false, .bool false, .bool false] = boolsC (List.replicate (16 * n) false) := by
   show (List.replicate (4 * n) (List.replicate 4 (Value.bool false))).flatten = _
   rw [List.flatten_replicate_replicate, boolsC, List.map_replicate, show 4 * n * 4 = 16 * n by omega]
  simp [joined_fl, hf4, rd_def, hG4, e1, e2, e3, e4, hrep]
  obtain ⟨H, hhH⟩ : ∃ H, H = h4 ++ [O.cells (boolsC (List.replicate (16 * n) false)) 109 (some 0)] := ⟨_, rfl⟩
  have hs4H : Sub h4 H := by rw [hhH]; exact (Sub.refl _).app _
  have hM : H[h4.length]? = some (O.cells (boolsC (List.replicate (16 * n) false)) 109 (some 0)) := by rw [hhH, app_at0]; rfl
  have lH : H.length = h4.length + 1 := by rw [hhH]; simp
  rw [← hhH]
  have hDH := hs4H _ _ (hs34 _ _ hB3)
  have hGH := hs4H _ _ hG4
  have hFH := hs4H _ _ (hs34 _ _ (hs23 _ _ hatF))
  have hCH := hs4H _ _ hatC
  have hxH := hx.sub (hBs.trans (hs2.trans (hs23.trans (hs34.trans hs4H))))
  have hs0H : Sub h0 H := hBs.trans (hs2.trans (hs23.trans (hs34.trans hs4H)))
  obtain ⟨G, hGe⟩ : ∃ G, G = dgOf n x s L := ⟨_, rfl⟩
  have hGn : G.n = n := by rw [hGe]; rfl
  have hG : GoodG G := by rw [hGe]; exact good_of hS
  have hxe : ∀ i q, i < n → q < 4 → x i q = G.X i q := fun i q hi hq => by rw [hGe]; exact sound_x hS hi hq
  rw [← hGe] at hO hFC ⊢
  have hnb : ∀ u f w, nbF (outF G) u f = some w → w < 16 * n := fun u f w hw => by rw [← hGn]; exact nbF_lt hG (by omega) hw
  have hlt : ∀ t f, fcT (outF G t f) < 4 * n := fun t f => by rw [← hGn]; exact outF_lt hG (by omega) t f
  have nmb1 : h0.length ≠ h4.length := by omega
  have nmb2 : h2.length ≠ h4.length := by omega
  have nmb3 : fb ≠ h4.length := by have := (List.getElem?_eq_some_iff.1 (hs34 _ _ (hs23 _ _ hatF))).1; omega
  have nmb4 : cb ≠ h4.length := by have := (List.getElem?_eq_some_iff.1 hatC).1; omega
  refine DW_loop (fun kk fr st => ∃ (t : Nat) (h : List O) (bs : List Bool) (vo : Value), t + kk = 4 * n ∧ st = ⟨h, h0.length⟩ ∧ CB (16 * n) (nbF (outF G)) (t * 4) bs ∧ CInv H h n h4.length (t * 4) G xs bs vo ∧
   get fr 1 = .pointer (some ⟨h0.length, 0, none⟩) ∧ get fr 5 = .pointer (some ⟨h2.length, 0, none⟩) ∧ get fr 6 = .slice (some ⟨cb, 0, none⟩) (2 * n) (2 * n) ∧ get fr 9 = .slice (some ⟨h4.length, 0, none⟩) (4 * n) (4 * n) ∧ get fr 10 = vo ∧ get fr 38 = .int .i64 (4 * n) ∧ get fr 39 = .int .i64 t) ?_ (k := 4 * n) ?_
  ·rintro kk fr st ⟨t, h, bs, vo, htk, rfl, hCB, hI, g1, g5, g6, g9, g10, g38, g39⟩
   by_cases ht : t < 4 * n
   ·have ht' : (t : Int) < 4 * n := by omega
    simp [g1, g5, g6, g9, g10, g38, g39, ht']
    refine DW_loop (fun kk' fr st => ∃ (i : Nat) (h : List O) (bs : List Bool) (vo : Value), i + kk' = 4 ∧ st = ⟨h, h0.length⟩ ∧ CB (16 * n) (nbF (outF G)) (t * 4 + i) bs ∧ CInv H h n h4.length (t * 4 + i) G xs bs vo ∧
     get fr 1 = .pointer (some ⟨h0.length, 0, none⟩) ∧ get fr 5 = .pointer (some ⟨h2.length, 0, none⟩) ∧ get fr 6 = .slice (some ⟨cb, 0, none⟩) (2 * n) (2 * n) ∧ get fr 9 = .slice (some ⟨h4.length, 0, none⟩) (4 * n) (4 * n) ∧ get fr 10 = vo ∧ get fr 38 = .int .i64 (4 * n) ∧ get fr 39 = .int .i64 t ∧ get fr 11 = .int .i64 t ∧ get fr 42 = .int .i64 i) ?_ (k := 4) ?_
    ·clear g1 g5 g6 g9 g10 g38 g39 hI hCB
     clear h bs vo
     rintro kk' fr st ⟨i, h, bs, vo, hik, rfl, hCB, hI, g1, g5, g6, g9, g10, g38, g39, g11, g42⟩
     by_cases hi : i < 4
     ·have hi' : (i : Int) < 4 := by omega
      have hw : IntKind.i64.wrap ((i : Int) + 1) = (i : Int) + 1 := by rw [w64_id] <;> omega
      have hm := hI.met
      have lm := (List.getElem?_eq_some_iff.1 hm).1
      have hv : t * 4 + i < 16 * n := by omega
      have hvb : t * 4 + i < bs.length := by rw [hCB.len]; exact hv
      by_cases hmet : bnth bs (t * 4 + i) = true
      ·simp [g1, g5, g6, g9, g10, g38, g39, g11, g42, hi', ht', rd_def, hm, boolsC_get hvb, hmet, hw]
       refine ⟨kk' - 1, by omega, i + 1, by omega, bs, hCB.skip hmet, vo, ?_, rfl, by omega⟩
       have hcl : cuspL G xs (t * 4 + i + 1) = cuspL G xs (t * 4 + i) := by
        unfold cuspL
        rw [firstsV_old ((hCB.met (fun u f w _ _ hw => hnb u f w hw) hv).1 hmet)]
       exact ⟨hI.keep, hI.met, by rw [← Nat.add_assoc, hcl]; exact hI.out⟩
      ·have hmf : bnth bs (t * 4 + i) = false := by simpa using hmet
       have b1 : t * 4 + i + 1 ≤ bs.length := by omega
       have hmin : min h0.length h4.length = h0.length := by omega
       simp [g1, g5, g6, g9, g10, g38, g39, g11, g42, hi', ht', rd_def, hm, boolsC_get hvb, hmf, hw, wrN_def, b1, boolsC_set, hmin]
       have vd : (t * 4 + i) / 4 = t := by omega
       have vm : (t * 4 + i) % 4 = i := by omega
       refine DW_loop (fun kk2 fr st => ∃ (k2 : Nat) (h : List O) (bs2 : List Bool) (qs : List Nat) (qb : Nat), k2 + kk2 = 16 * n ∧ st = ⟨h, h0.length⟩ ∧ CInv H h n h4.length (t * 4 + i) G xs bs2 vo ∧ CQv H h n (t * 4 + i) k2 0 qb (nbF (outF G)) bs bs2 qs ∧ k2 ≤ qs.length ∧
        get fr 1 = .pointer (some ⟨h0.length, 0, none⟩) ∧ get fr 5 = .pointer (some ⟨h2.length, 0, none⟩) ∧ get fr 6 = .slice (some ⟨cb, 0, none⟩) (2 * n) (2 * n) ∧ get fr 9 = .slice (some ⟨h4.length, 0, none⟩) (4 * n) (4 * n) ∧ get fr 10 = vo ∧ get fr 38 = .int .i64 (4 * n) ∧ get fr 39 = .int .i64 t ∧ get fr 11 = .int .i64 t ∧ get fr 42 = .int .i64 i ∧ get fr 12 = .int .i64 i ∧
        get fr 13 = .slice (some ⟨qb, 0, none⟩) qs.length qs.length ∧ get fr 14 = .int .i64 k2) ?_ (k := 16 * n) ?_
       ·clear g1 g5 g6 g9 g10 g38 g39 g11 g42 hI hm lm hmin
        clear h
        rintro kk2 fr st ⟨k2, h, bs2, qs, qb, hkk, rfl, hI, hQ, hkq, g1, g5, g6, g9, g10, g38, g39, g11, g42, g12, g13, g14⟩
        by_cases hk2 : k2 < qs.length
        ·obtain ⟨n1, n2⟩ := nodesC_get hk2
         obtain ⟨qlo, qsz, qat⟩ := hQ.own.at_
         obtain ⟨u, hu⟩ : ∃ u, u = qn qs k2 := ⟨_, rfl⟩
         rw [← hu] at n1 n2
         have huN := (hQ.q.inq u (by rw [hu]; exact qn_mem hk2)).1
         have hu4 : u / 4 < 4 * n := by omega
         have hu4' : (((u / 4 : Nat) : Int)) < 4 * n := by omega
         have hGh := hI.keep _ _ hGH nmb2
         have hFh := hI.keep _ _ hFH nmb3
         obtain ⟨row, hrd⟩ : ∃ row, row = fcC (outF G (u / 4) 0) ++ fcC (outF G (u / 4) 1) ++ fcC (outF G (u / 4) 2) ++ fcC (outF G (u / 4) 3) := ⟨_, rfl⟩
         have hrow := hFC.row hu4
         have hpart := fun f hf => row_face (outF G) (u / 4) f hf
         rw [← hrd] at hrow
         rw [← hrd] at hpart
         have hcl := hFC.1
         have b2 : u / 4 * 20 + 20 ≤ cs'.length := by omega
         obtain ⟨ud, hud⟩ : ∃ ud, ud = u / 4 := ⟨_, rfl⟩
         obtain ⟨um, hum⟩ : ∃ um, um = u % 4 := ⟨_, rfl⟩
         have hum4 : um < 4 := by omega
         rw [← hud] at n1 hu4 hu4' hrow b2 hpart
         rw [← hum] at n2
         simp [g1, g5, g6, g9, g10, g38, g39, g11, g42, g12, g13, g14, hk2, rd_def, qat, n1, n2, rdN_def, hGh, hFh, hu4', hu4, b2, hrow]
         refine DW_loop (fun kk3 fr st => ∃ (f : Nat) (h : List O) (bs2 : List Bool) (qs : List Nat) (qb : Nat), f + kk3 = 4 ∧ st = ⟨h, h0.length⟩ ∧ CInv H h n h4.length (t * 4 + i) G xs bs2 vo ∧ CQv H h n (t * 4 + i) k2 f qb (nbF (outF G)) bs bs2 qs ∧ k2 < qs.length ∧ u = qn qs k2 ∧
          get fr 1 = .pointer (some ⟨h0.length, 0, none⟩) ∧ get fr 5 = .pointer (some ⟨h2.length, 0, none⟩) ∧ get fr 6 = .slice (some ⟨cb, 0, none⟩) (2 * n) (2 * n) ∧ get fr 9 = .slice (some ⟨h4.length, 0, none⟩) (4 * n) (4 * n) ∧ get fr 10 = vo ∧ get fr 38 = .int .i64 (4 * n) ∧ get fr 39 = .int .i64 t ∧ get fr 11 = .int .i64 t ∧ get fr 42 = .int .i64 i ∧ get fr 12 = .int .i64 i ∧
          get fr 13 = .slice (some ⟨qb, 0, none⟩) qs.length qs.length ∧ get fr 14 = .int .i64 k2 ∧ get fr 16 = .int .i64 um ∧ get fr 80 = .agg row.toArray ∧ get fr 81 = .int .i64 f) ?_ (k := 4) ?_
         ·clear g1 g5 g6 g9 g10 g38 g39 g11 g42 g12 g13 g14 hI hQ hu n1 n2 qat hGh hFh qlo hk2 hkq
          clear h bs2 qs qb
          rintro kk3 fr st ⟨f, h, bs2, qs, qb, hfk, rfl, hI, hQ, hk2, hu, g1, g5, g6, g9, g10, g38, g39, g11, g42, g12, g13, g14, g16, g80, g81⟩
          by_cases hf : f < 4
          ·have hf' : (f : Int) < 4 := by omega
           have hwf : IntKind.i64.wrap ((f : Int) + 1) = (f : Int) + 1 := by rw [w64_id] <;> omega
           have hp := hpart f hf
           obtain ⟨y, hy⟩ : ∃ y, y = outF G ud f := ⟨_, rfl⟩
           rw [← hy] at hp
           have hyt : fcT y < 4 * n := by rw [hy]; exact hlt _ _
           have hyp := fcP_lt y hum4
           have hm := hI.met
           have lm := (List.getElem?_eq_some_iff.1 hm).1
           obtain ⟨H1, hH1⟩ : ∃ H1, H1 = h ++ [O.cells (fcC y) 99 (some 0)] := ⟨_, rfl⟩
           have hs1 : Sub h H1 := by rw [hH1]; exact (Sub.refl _).app _
           have h18 : H1[h.length]? = some (O.cells (fcC y) 99 (some 0)) := by rw [hH1, app_at0]; rfl
           have hm1 := hs1 _ _ hm
           have hI1 : CInv H H1 n h4.length (t * 4 + i) G xs bs2 vo := ⟨fun b o hb hn' => hs1 _ _ (hI.keep b o hb hn'), hm1, hI.out.keep fun b s _ e => hs1 _ _ e⟩
           have hQ1 : CQv H H1 n (t * 4 + i) k2 f qb (nbF (outF G)) bs bs2 qs := ⟨hQ.q, hQ.own.keep fun b s _ e => hs1 _ _ e, hQ.cnt, hQ.hd⟩
           have hyi : (fcC y)[1 + um]? = some (.int .i64 (fcP y um)) := by
            rw [fcC_eq]
            match um, hum4 with
            | 0, _ => rfl
            | 1, _ => rfl
            | 2, _ => rfl
            | 3, _ => rfl
           have hum' : (um : Int) < 4 := by omega
           have hyp' : ((fcP y um : Nat) : Int) < 4 := by omega
           have hyt' : ((fcT y : Nat) : Int) < 4 * n := by omega
           have hwN : fcT y * 4 + fcP y um < 16 * n := by omega
           have hwb : fcT y * 4 + fcP y um < bs2.length := by rw [hQ.q.len]; exact hwN
           rw [fcC_eq] at hp hH1 h18 hyi
           by_cases hfe : f = um
           ·have hnone : nbF (outF G) (qn qs k2) f = none := by rw [← hu]; unfold nbF; rw [if_pos (by rw [hfe, hum])]
            subst hfe
            simp [g1, g5, g6, g9, g10, g38, g39, g11, g42, g12, g13, g14, g16, g80, g81, hf', hp, wrN_at0, set_at0, ← hH1, hwf]
            exact ⟨kk3 - 1, by omega, f + 1, by omega, H1, ⟨rfl, by have := hs1.len; have := lm; omega⟩, bs2, hI1, qs, qb, ⟨hQ1.q.pass (fun w hw' => by rw [hnone] at hw'; cases hw'), hQ1.own, hQ1.cnt, hQ1.hd⟩, hk2, hu, ⟨rfl, rfl⟩, by omega⟩
           ·have hfe' : ¬ ((f : Int) = (um : Int)) := by omega
            have hsome : nbF (outF G) (qn qs k2) f = some (fcT y * 4 + fcP y um) := by
             rw [← hu]; unfold nbF; rw [if_neg (by omega), hy, hud, hum]
            cases hbm : bnth bs2 (fcT y * 4 + fcP y um)
            ·have b5 : fcT y * 4 + fcP y um + 1 ≤ bs2.length := by omega
             have nhm : h4.length ≠ h.length := by omega
             obtain ⟨H2, hH2⟩ : ∃ H2, H2 = H1.set h4.length (O.cells (boolsC (bs2.set (fcT y * 4 + fcP y um) true)) 109 (some 0)) := ⟨_, rfl⟩
             have h182 := set_ne (x := O.cells (boolsC (bs2.set (fcT y * 4 + fcP y um) true)) 109 (some 0)) (a := h4.length) h18 (Ne.symm nhm)
             rw [← hH2] at h182
             have hm2 : H2[h4.length]? = some (O.cells (boolsC (bs2.set (fcT y * 4 + fcP y um) true)) 109 (some 0)) := by rw [hH2]; exact set_self hm1
             have lH1 : H1.length = h.length + 1 := by rw [hH1]; simp
             have lH2 : H2.length = h.length + 1 := by rw [hH2, List.length_set, lH1]
             have K2 : ∀ (b : Nat) (o : O), h[b]? = some o → b ≠ h4.length → H2[b]? = some o := fun b o hb hn' => by rw [hH2]; exact set_ne (hs1 _ _ hb) hn'
             obtain ⟨qlo, qsz, qat⟩ := hQ.own.at_
             have nqm : qb ≠ h4.length := fun e => by rw [e, hm] at qat; simp at qat
             have hown3 : OwnS (H2 ++ [O.cells [.int .i64 (fcT y), .int .i64 (fcP y um)] 110 (some 0)]) H.length (.slice (some ⟨qb, 0, none⟩) qs.length qs.length) qs.length (nodesC qs) 110 2 := hQ.own.keep fun b s e1 e2 => app_of (K2 _ _ e2 (by simp at e1; omega)) _
             have hread : readSlice (H2 ++ [O.cells [.int .i64 (fcT y), .int .i64 (fcP y um)] 110 (some 0)]) 2 1 (some ⟨H2.length, 0, none⟩) = some [.int .i64 (fcT y), .int .i64 (fcP y um)] := by simp [readSlice, rdN_at0]
             have hcnt := hQ.cnt
             have hunm := unm_set hwb hbm
             have lHh : H.length ≤ h.length := by
              rcases Nat.lt_or_ge h.length H.length with hc | hc
              ·have := hI.keep (H.length - 1)
               have h1' : H[h4.length]? ≠ none := by rw [hM]; simp
               omega
              ·exact hc
             obtain ⟨b', H4, f4, happ, hb', hown, hf1, hf2, hL4, K4⟩ := append_S (fl := h0.length) (c := 1) (bytes := 16) hown3 hread (by simp) (by simp) (by simp; omega) (by simp only [roomMax]; omega) (by omega)
             obtain rfl : f4 = h0.length := by omega
             have hmin3 : min h0.length (min h.length h4.length) = h0.length := by omega
             simp [g1, g5, g6, g9, g10, g38, g39, g11, g42, g12, g13, g14, g16, g80, g81, hf', hp, wrN_at0, set_at0, ← hH1, hwf, hfe, rd_def, h18, hyi, hum', hyp', hyt', hm1, boolsC_get hwb, hbm, wrN_def, b5, boolsC_set, ← hH2, h182, bit, nhm, nhm.symm, hmin3, happ]
             obtain ⟨w, hwe⟩ : ∃ w, w = fcT y * 4 + fcP y um := ⟨_, rfl⟩
             have w1 : w / 4 = fcT y := by omega
             have w2 : w % 4 = fcP y um := by omega
             have hown' : OwnS H4 H.length (.slice (some ⟨b', 0, none⟩) (qs ++ [w]).length (qs ++ [w]).length) (qs ++ [w]).length (nodesC (qs ++ [w])) 110 2 := by
              rw [nodesC_app, w1, w2]; simpa using hown
             rw [← hwe] at hsome hwN hwb hunm hm2
             refine ⟨kk3 - 1, by omega, f + 1, by omega, bs2.set w true, ⟨fun b o hb hn' => ?_, ?_, ?_⟩, qs ++ [w], b', ⟨hQ.q.add hk2 hf hsome hwN, hown', by simp; omega, ?_⟩, by simp; omega, by rw [qn_snoc (by omega), if_pos hk2]; exact hu, ⟨rfl, by simp⟩, by omega⟩
             ·have hbl := (List.getElem?_eq_some_iff.1 hb).1
              exact K4 _ _ (app_of (K2 _ _ (hI.keep b o hb hn') hn') _) (fun n c e => by simp at e <;> omega)
             ·exact K4 _ _ (app_of hm2 _) (fun n c e => by simp at e <;> omega)
             ·exact hI.out.keep fun b s e1 e2 => K4 _ _ (app_of (K2 _ _ e2 (fun e => by rw [e, hm] at e2; simp at e2)) _) (fun n c e => by
               simp at e
               rw [e.1] at qat
               rw [qat] at e2
               simp at e2)
             ·rw [bnth_set hwb]
              split
              ·rfl
              ·exact hQ.hd
            ·simp [g1, g5, g6, g9, g10, g38, g39, g11, g42, g12, g13, g14, g16, g80, g81, hf', hp, wrN_at0, set_at0, ← hH1, hwf, hfe, rd_def, h18, hyi, hum', hyp', hyt', hm1, boolsC_get hwb, hbm]
             exact ⟨kk3 - 1, by omega, f + 1, by omega, H1, ⟨rfl, by have := lm; omega⟩, bs2, hI1, qs, qb, ⟨hQ1.q.pass (fun w hw' => by rw [hsome] at hw'; obtain rfl := Option.some.inj hw'; exact hbm), hQ1.own, hQ1.cnt, hQ1.hd⟩, hk2, hu, ⟨rfl, rfl⟩, by omega⟩
          ·have hf4 : f = 4 := by omega
           subst hf4
           have hwk : IntKind.i64.wrap ((k2 : Int) + 1) = (k2 : Int) + 1 := by have := hQ.cnt; rw [w64_id] <;> omega
           simp [g1, g5, g6, g9, g10, g38, g39, g11, g42, g12, g13, g14, g16, g80, g81, hwk]
           have hcq := hQ.cnt
           exact ⟨kk2 - 1, by omega, k2 + 1, by omega, bs2, hI, qs, qb, ⟨hQ.q.next, hQ.own, hQ.cnt, hQ.hd⟩, hk2, ⟨rfl, rfl⟩, by omega⟩
         ·refine ⟨0, h, bs2, qs, qb, by omega, rfl, hI, hQ, hk2, hu, ?_⟩
          simp [g1, g5, g6, g9, g10, g38, g39, g11, g42, g12, g13, g14]
        ·have hkl : k2 = qs.length := by omega
         have hfin := hQ.q.finish hCB hkl hQ.hd
         have hDh := hI.keep _ _ hDH nmb1
         have hCh := hI.keep _ _ hCH nmb4
         have hout := hI.out
         have hcn : t / 4 < n := by omega
         obtain ⟨cc, hcc⟩ : ∃ cc, cc = t / 4 := ⟨_, rfl⟩
         rw [← hcc] at hcn
         have hcl : cuspL G xs (t * 4 + i + 1) = cuspL G xs (t * 4 + i) ++ [cuspV G xs (t * 4 + i)] := by
          unfold cuspL
          rw [firstsV_new fun hx => hmet ((hCB.met (fun u f w _ _ hw => hnb u f w hw) hv).2 hx), List.map_append]
          rfl
         have hcv : cuspV G xs (t * 4 + i) = if i = 0 then nth xs (G.X cc 1) else if i = 1 then nth xs (G.X cc 0) else 1 - (i : Int) := by
          unfold cuspV
          rw [vm, show (t * 4 + i) / 16 = cc by omega]
          match i, hi with
          | 0, _ => rfl
          | 1, _ => rfl
          | 2, _ => rfl
          | 3, _ => rfl
         have hlc := cuspL_len G xs (t * 4 + i)
         have lHh : H.length ≤ h.length := by have := (List.getElem?_eq_some_iff.1 hI.met).1; omega
         have key : ∃ b' H4, appendV 3 1 8 vo (.slice (some ⟨h.length, 0, none⟩) 1 1) ⟨h ++ [O.cells [.int .i64 (cuspV G xs (t * 4 + i))] 3 (some 0)], h0.length⟩ = some (.slice (some ⟨b', 0, none⟩) ((cuspL G xs (t * 4 + i)).length + 1) ((cuspL G xs (t * 4 + i)).length + 1), ⟨H4, h0.length⟩) ∧
           CInv H H4 n h4.length (t * 4 + i + 1) G xs bs2 (.slice (some ⟨b', 0, none⟩) ((cuspL G xs (t * 4 + i)).length + 1) ((cuspL G xs (t * 4 + i)).length + 1)) := by
          have hread : readSlice (h ++ [O.cells [.int .i64 (cuspV G xs (t * 4 + i))] 3 (some 0)]) 1 1 (some ⟨h.length, 0, none⟩) = some [.int .i64 (cuspV G xs (t * 4 + i))] := by simp [readSlice, rdN_at0]
          have hown3 : OwnS (h ++ [O.cells [.int .i64 (cuspV G xs (t * 4 + i))] 3 (some 0)]) H.length vo (cuspL G xs (t * 4 + i)).length (intsC (cuspL G xs (t * 4 + i))) 3 1 := hout.keep fun b s e1 e2 => app_of e2 _
          obtain ⟨b', H4, f4, happ, hb', hown, hf1, hf2, hL4, K4⟩ := append_S (fl := h0.length) (c := 1) (bytes := 8) hown3 hread (by simp) (by simp) (by simp; omega) (by simp only [roomMax]; omega) (by omega)
          obtain rfl : f4 = h0.length := by omega
          refine ⟨b', H4, happ, fun b o hb hn' => ?_, ?_, ?_⟩
          ·have hbl := (List.getElem?_eq_some_iff.1 hb).1
           refine K4 _ _ (app_of (hI.keep b o hb hn') _) (fun n c e => ?_)
           rcases hout.2 with ⟨e1, _⟩ | ⟨b2, s2, e1, e2, _⟩
           ·rw [e1] at e; cases e
           ·rw [e1] at e; simp at e <;> omega
          ·refine K4 _ _ (app_of hI.met _) (fun n c e => ?_)
           rcases hout.2 with ⟨e1, _⟩ | ⟨b2, s2, e1, e2, _⟩
           ·rw [e1] at e; cases e
           ·rw [e1] at e; simp at e <;> omega
          ·rw [hcl]
           simpa [intsC] using hown
         obtain ⟨b', H4, happ, hI4⟩ := key
         have hci : (cc : Int) < n := by omega
         have hquo : binV .quo (.int .i64 t) (.int .i64 4) = some (.int .i64 cc) := by
          rw [binV_quo (by decide), show ((t : Int)).tdiv 4 = cc by rw [Int.tdiv_eq_ediv_of_nonneg (by omega)]; omega, w64_id] <;> omega
         have hx1 : ∀ q, q < 4 → G.X cc q < xs.length ∧ ((G.X cc q : Nat) : Int) < 2 * n := fun q hq => by
          have := hG.X cc q (by omega) hq
          have := hO.len
          omega
         obtain ⟨xb, xo, hxa, hxr⟩ := hxH
         obtain rfl := hxa (by omega)
         have hread : ∀ q, q < 4 → rd h xb (xo + cc * 5 + q) = some (.int .i64 (G.X cc q)) := fun q hq => by
          have hb4 : xb ≠ h4.length := by
           have hx2 := hx
           obtain ⟨yb, yo, hya, hyr⟩ := hx2
           have := hya (by omega)
           simp at this
           have h5 := hyr 0 (by omega)
           have := rdN_lt h5
           omega
          have h6 : rdN h xb (xo + cc * 5) 5 = some (crossC (x cc) (s cc)) := by
           have h7 := hxr cc hcn
           rw [rdN_def] at h7 ⊢
           cases hb : H[xb]? with
           | none => rw [hb] at h7; simp [rdNO] at h7
           | some o => rw [hI.keep _ _ hb hb4, ← hb]; exact h7
          rw [rd_of_rdN h6 (show q < 5 by omega), ← hxe cc q hcn hq]
          match q, hq with
          | 0, _ => rfl
          | 1, _ => rfl
          | 2, _ => rfl
          | 3, _ => rfl
         obtain ⟨p0, p1⟩ := hx1 0 (by omega)
         obtain ⟨q0, q1⟩ := hx1 1 (by omega)
         have r0 := hread 0 (by omega)
         have r1 := hread 1 (by omega)
         rw [rd_def] at r0 r1
         simp only [Nat.add_zero] at r0
         have fin : ∃ k', k' < kk' ∧ ∃ i_1, i_1 + k' = 4 ∧ ∃ x, CB (16 * n) (nbF (outF G)) (t * 4 + i_1) x ∧ ∃ x_1, CInv H H4 n h4.length (t * 4 + i_1) G xs x x_1 ∧ Value.slice (some ⟨b', 0, none⟩) ((cuspL G xs (t * 4 + i)).length + 1) ((cuspL G xs (t * 4 + i)).length + 1) = x_1 ∧ (i : Int) + 1 = i_1 :=
          ⟨kk' - 1, by omega, i + 1, by omega, bs2, hfin, _, hI4, rfl, by omega⟩
         by_cases i0 : i = 0
         ·rw [hcv, if_pos i0] at happ
          have hi0 : (i : Int) = 0 := by omega
          simp [g1, g5, g6, g9, g10, g38, g39, g11, g42, g12, g13, g14, hk2, rd_def, hDh, hquo, hci, hcn, r0, r1, q1, hCh, intsC_get q0, happ, eq_true i0, eq_true hi0, hw]
          exact fin
         ·have hi0 : ¬ (i : Int) = 0 := by omega
          by_cases i1 : i = 1
          ·rw [hcv, if_neg i0, if_pos i1] at happ
           have hi1 : (i : Int) = 1 := by omega
           simp [g1, g5, g6, g9, g10, g38, g39, g11, g42, g12, g13, g14, hk2, rd_def, hDh, hquo, hci, hcn, r0, r1, p1, hCh, intsC_get p0, happ, i0, hi0, eq_true i1, eq_true hi1, hw]
           exact fin
          ·have hi1 : ¬ (i : Int) = 1 := by omega
           rw [hcv, if_neg i0, if_neg i1] at happ
           have hw3 : IntKind.i64.wrap (1 - (i : Int)) = 1 - (i : Int) := by rw [w64_id] <;> omega
           simp [g1, g5, g6, g9, g10, g38, g39, g11, g42, g12, g13, g14, hk2, happ, i0, hi0, i1, hi1, hw, hw3]
           exact fin
       ·refine ⟨0, _, bs.set (t * 4 + i) true, [t * 4 + i], h.length, by omega, rfl, ⟨fun b o hb hn' => ?_, ?_, ?_⟩, ⟨CQ.start hCB hv, ?_, ?_, ?_⟩, by simp, ?_⟩
        ·exact app_of (set_ne (hI.keep b o hb hn') hn') _
        ·exact app_of (set_self hm) _
        ·exact hI.out.keep fun b s e1 e2 => app_of (set_ne e2 (fun e => by rw [e, hm] at e2; simp at e2)) _
        ·refine ⟨by simp [nodesC], .inr ⟨h.length, 0, rfl, ?_, ?_, .inl rfl⟩⟩
         ·omega
         ·have : (h.set h4.length (O.cells (boolsC (bs.set (t * 4 + i) true)) 109 (some 0))).length = h.length := List.length_set
          rw [← this, app_at0]
          simp [nodesC]
          exact ⟨by omega, by omega⟩
        ·have h1' := unm_set hvb hmf
         have h2' := unm_le bs
         have h3' := hCB.len
         simp
         omega
        ·rw [bnth_set hvb, if_pos rfl]
        ·simp [g1, g5, g6, g9, g10, g38, g39, g11, g42]
     ·have hi4 : i = 4 := by omega
      subst hi4
      have hw : IntKind.i64.wrap ((t : Int) + 1) = (t : Int) + 1 := by rw [w64_id] <;> omega
      simp [g1, g5, g6, g9, g10, g38, g39, g11, g42, hw]
      refine ⟨kk - 1, by omega, t + 1, by omega, bs, ?_, vo, ?_, rfl, by omega⟩
      ·rw [show (t + 1) * 4 = t * 4 + 4 by omega]; exact hCB
      ·rw [show (t + 1) * 4 = t * 4 + 4 by omega]; exact hI
    ·exact ⟨0, h, bs, vo, by omega, rfl, hCB, hI, by simp [g1, g5, g6, g9, g10, g38, g39]⟩
   ·have htn : t = 4 * n := by omega
    subst htn
    simp [g1, g5, g6, g9, g10, g38, g39]
    have hsub : Sub h0 h := fun b o hb => hI.keep _ _ (hs0H _ _ hb) (by have := (List.getElem?_eq_some_iff.1 hb).1; omega)
    have hout := hI.out
    rw [show 4 * n * 4 = 16 * n by omega] at hout
    have lHh : h0.length ≤ H.length := hs0H.len
    unfold pairQ back
    rcases hout.2 with ⟨e1, e2⟩ | ⟨b2, s2, e1, e2, e3, e4⟩
    ·rw [e1]
     rw [if_pos (by simp [Out.scalar, scalar, flat1, flat])]
     refine ⟨xs, ⟨k, hO⟩, .slice none 0 0, rfl, Nat.le_refl _, Sub.refl _, ?_⟩
     have hL : cuspL G xs (16 * n) = [] := List.length_eq_zero_iff.1 e2
     rw [hL]
     exact OwnS.nil _ _ _ _
    ·rw [e1]
     rw [if_neg (by simp [Out.scalar, scalar, flat1, flat])]
     exact ⟨xs, ⟨k, hO⟩, _, rfl, Nat.le_refl _, hsub, hout.1, .inr ⟨b2, s2, rfl, by omega, e3, e4⟩⟩
  ·refine ⟨0, H, List.replicate (16 * n) false, .slice none 0 0, by omega, by rw [show min h0.length h2.length = h0.length by omega], ?_, ⟨fun b o hb _ => hb, hM, ?_⟩, by simp⟩
   ·rw [Nat.zero_mul]; exact CB.start
   ·exact OwnS.nil _ _ _ _
 ·simp [DC_of hask, joined_fl, hk, back_scalar, Out.scalar, scalar, flat1, flat]
end Go.Proofs.Ytjlkndkedknocaa
namespace Go.Proofs.Ytjlkndkedknocaa
open Go Go.Ai
attribute [local instance] Classical.propDecidable
variable {E : Env} (hE : OE E)
include hE
theorem few_ {h : List O} {a : Option Addr} {n c : Nat} {L : Int} : DR E 16 [dV a n c L] ⟨h, h.length⟩ (.ret (.bool (decide (n ≤ 8 ∨ 200 < n)))) ⟨h, h.length⟩ := by
 refine hE.fn (body := rb16) rfl ?_
 unfold rb16
 by_cases h1 : n ≤ 8
 ·have h1' : (n : Int) ≤ 8 := by omega
  simp [dV, rd_at0, h1, h1']
 ·have h1' : ¬ (n : Int) ≤ 8 := by omega
  by_cases h2 : 200 < n
  ·have h2' : (200 : Int) < n := by omega
   simp [dV, rd_at0, h1, h1', h2, h2']
  ·have h2' : ¬ (200 : Int) < n := by omega
   simp [dV, rd_at0, h1, h1', h2, h2']
end Go.Proofs.Ytjlkndkedknocaa
namespace Go.Proofs.Ytjlkndkedknocaa
open Go Go.Ai
attribute [local instance] Classical.propDecidable
variable {E : Env} (hE : OE E)
include hE
end Go.Proofs.Ytjlkndkedknocaa
namespace Go.Ai
attribute [local instance] Classical.propDecidable
theorem cntP_split (p q : Nat → Prop) : ∀ n, cntP p n = cntP (fun i => p i ∧ q i) n + cntP (fun i => p i ∧ ¬ q i) n := by
 intro n
 induction n with
 | zero => rfl
 | succ n ih =>
  simp only [cntP]
  by_cases hp : p n
  ·by_cases hq : q n
   ·rw [if_pos hp, if_pos ⟨hp, hq⟩, if_neg (fun h => h.2 hq)]; omega
   ·rw [if_pos hp, if_neg (fun h => hq h.2), if_pos ⟨hp, hq⟩]; omega
  ·rw [if_neg hp, if_neg (fun h => hp h.1), if_neg (fun h => hp h.1)]; omega
end Go.Ai
namespace Go.Proofs.Ytjlkndkedknocaa
open Go Go.Ai
attribute [local instance] Classical.propDecidable
def ClosU (G : Dg) (U : Nat → Prop) : Prop := ∀ a b, a < G.n → U a → Conn G a b → U b
theorem union_ge {G : Dg} (hG : GoodG G) (hP : PlanG G) : ∀ m (U : Nat → Prop), ClosU G U → cntP U G.n = m → m ≤ cntP (fun t => U (rhead G t)) (regs G).length ∧ ((∃ c, c < G.n ∧ U c) → m + 2 ≤ cntP (fun t => U (rhead G t)) (regs G).length) := by
 intro m
 induction m using Nat.strongRecOn with
 | ind m ih =>
  intro U hU hm
  by_cases hc : ∃ c, c < G.n ∧ U c
  ·obtain ⟨c, hc1, hc2⟩ := hc
   have hV : ClosU G fun i => U i ∧ ¬ Conn G c i := fun a b ha h1 h2 => ⟨hU a b ha h1.1 h2, fun h3 => h1.2 (h3.trans (h2.symm hG ha))⟩
   have s1 := cntP_split U (fun i => Conn G c i) G.n
   have s2 := cntP_split (fun t => U (rhead G t)) (fun t => Conn G c (rhead G t)) (regs G).length
   have e1 : cntP (fun i => U i ∧ Conn G c i) G.n = cntP (fun i => Conn G c i) G.n := cntP_congr fun i _ => ⟨fun h => h.2, fun h => ⟨hU c i hc1 hc2 h, h⟩⟩
   have e2 : cntP (fun t => U (rhead G t) ∧ Conn G c (rhead G t)) (regs G).length = cntP (fun t => Conn G c (rhead G t)) (regs G).length := cntP_congr fun t _ => ⟨fun h => h.2, fun h => ⟨hU c _ hc1 hc2 h, h⟩⟩
   have p1 := hP c hc1
   have p2 : 0 < cntP (fun i => Conn G c i) G.n := cntP_pos hc1 (.refl c)
   obtain ⟨i1, i2⟩ := ih (cntP (fun i => U i ∧ ¬ Conn G c i) G.n) (by omega) _ hV rfl
   exact ⟨by omega, fun _ => by omega⟩
  ·have : m = 0 := by
    rw [← hm]
    exact cntP_zero fun i hi h => hc ⟨i, hi, h⟩
   exact ⟨by omega, fun h => absurd h hc⟩
theorem mix_conn {G : Dg} (hG : GoodG G) (hP : PlanG G) (hn : 0 < G.n) : (regs G).length = G.n + 2 ↔ ∀ c, c < G.n → Conn G 0 c := by
 have p0 := hP 0 hn
 have s1 := cntP_split (fun _ => True) (fun i => Conn G 0 i) G.n
 have s2 := cntP_split (fun _ => True) (fun t => Conn G 0 (rhead G t)) (regs G).length
 have e1 : cntP (fun i => True ∧ Conn G 0 i) G.n = cntP (fun i => Conn G 0 i) G.n := cntP_congr fun i _ => ⟨fun h => h.2, fun h => ⟨trivial, h⟩⟩
 have e2 : cntP (fun t => True ∧ Conn G 0 (rhead G t)) (regs G).length = cntP (fun t => Conn G 0 (rhead G t)) (regs G).length := cntP_congr fun i _ => ⟨fun h => h.2, fun h => ⟨trivial, h⟩⟩
 have e3 : cntP (fun i => True ∧ ¬ Conn G 0 i) G.n = cntP (fun i => ¬ Conn G 0 i) G.n := cntP_congr fun i _ => ⟨fun h => h.2, fun h => ⟨trivial, h⟩⟩
 have e4 : cntP (fun t => True ∧ ¬ Conn G 0 (rhead G t)) (regs G).length = cntP (fun t => ¬ Conn G 0 (rhead G t)) (regs G).length := cntP_congr fun i _ => ⟨fun h => h.2, fun h => ⟨trivial, h⟩⟩
 have a1 : cntP (fun _ => True) G.n = G.n := cntP_all fun _ _ => trivial
 have a2 : cntP (fun _ => True) (regs G).length = (regs G).length := cntP_all fun _ _ => trivial
 have hU : ClosU G fun i => ¬ Conn G 0 i := fun a b ha h1 h2 h3 => h1 (h3.trans (h2.symm hG ha))
 obtain ⟨u1, u2⟩ := union_ge hG hP _ _ hU rfl
 constructor
 ·intro hr c hc
  apply Classical.byContradiction
  intro hne
  have := u2 ⟨c, hc, hne⟩
  omega
 ·intro hall
  have z1 : cntP (fun i => ¬ Conn G 0 i) G.n = 0 := cntP_zero fun i hi h => h (hall i hi)
  have z2 : cntP (fun t => ¬ Conn G 0 (rhead G t)) (regs G).length = 0 := cntP_zero fun t ht h => h (hall _ (rhead_lt hG ht))
  omega
def nbC (G : Dg) (u f : Nat) : Option Nat := some (oth G (u, f)).1
theorem VC_conn {G : Dg} {a b : Nat} : VC (nbC G) a b ↔ Conn G a b := by
 constructor
 ·intro h
  induction h with
  | refl => exact .refl _
  | step f _ hf hw ih =>
   obtain rfl := Option.some.inj hw
   exact ih.step f hf
 ·intro h
  induction h with
  | refl => exact .refl _
  | step q _ hq ih => exact ih.step q hq rfl
theorem unm_zero {bs : List Bool} {n : Nat} (hl : bs.length = n) : unm bs = 0 ↔ ∀ i, i < n → bnth bs i = true := by
 unfold unm
 rw [List.countP_eq_zero]
 constructor
 ·intro h i hi
  have := h (bs[i]'(by omega)) (List.getElem_mem _)
  simp [bnth, show i < bs.length by omega] at this ⊢
  simpa using this
 ·intro h b hb
  obtain ⟨i, hi, rfl⟩ := List.getElem_of_mem hb
  have := h i (by omega)
  simp [bnth, hi] at this
  simp [this]
theorem CQ.all {n r k : Nat} {nb : Nat → Nat → Option Nat} {bs0 bs : List Bool} {qs : List Nat} (h : CQ n nb r k 0 bs0 bs qs) (hk : k = qs.length) (hr : r < n) (h0 : ∀ i, bnth bs0 i = false) (hrm : bnth bs r = true) (hN : ∀ u f w, u < n → f < 4 → nb u f = some w → w < n) (i : Nat) (hi : i < n) : bnth bs i = true ↔ VC nb r i := by
 constructor
 ·intro hb
  rcases h.new i hb with h1 | h1
  ·rw [h0] at h1; cases h1
  ·exact (h.inq i h1).2.2
 ·intro hv
  have key : ∀ b, VC nb r b → b < n ∧ bnth bs b = true := by
   intro b hb
   induction hb with
   | refl => exact ⟨hr, hrm⟩
   | step f _ hf hw ih =>
    refine ⟨hN _ f _ ih.1 hf hw, ?_⟩
    rcases h.new _ ih.2 with h1 | h1
    ·rw [h0] at h1; cases h1
    ·obtain ⟨t, ht, hte⟩ := List.getElem_of_mem h1
     refine h.procd t (by omega) f _ hf ?_
     rw [show qn qs t = qs[t] by simp [qn, ht], hte]
     exact hw
  exact (key i hv).2
end Go.Proofs.Ytjlkndkedknocaa
namespace Go.Proofs.Ytjlkndkedknocaa
open Go Go.Ai
attribute [local instance] Classical.propDecidable
theorem same_arc {G : Dg} (hG : GoodG G) {x y : Nat × Nat} (hx : InV G x) (hy : InV G y) (h : G.X x.1 x.2 = G.X y.1 y.2) : x = y ∨ x = oth G y := by
 obtain ⟨x1, x2, x3⟩ := hx
 obtain ⟨y1, y2, y3⟩ := hy
 have cx := hG.cover x.1 x.2 x1 x2
 have cy := hG.cover y.1 y.2 y1 y2
 obtain ⟨_, _, _, _, _, _, hne⟩ := hG.T _ y3
 rw [h] at cx
 unfold oth
 rcases cx with ⟨a1, a2⟩ | ⟨a1, a2⟩
 ·rcases cy with ⟨b1, b2⟩ | ⟨b1, b2⟩
  ·exact .inl (Prod.ext (a1.trans b1.symm) (a2.trans b2.symm))
  ·right
   rw [if_neg (fun e => hne ⟨e.1.trans b1, e.2.trans b2⟩)]
   exact Prod.ext a1 a2
 ·rcases cy with ⟨b1, b2⟩ | ⟨b1, b2⟩
  ·right
   rw [if_pos ⟨b1.symm, b2.symm⟩]
   exact Prod.ext a1 a2
  ·exact .inl (Prod.ext (a1.trans b1.symm) (a2.trans b2.symm))
structure MQ (G : Dg) (k f : Nat) (bs : List Bool) (qs : List Nat) : Prop where
 q : CQ G.n (nbC G) 0 k f (List.replicate G.n false) bs qs
 cnt : qs.length + unm bs = G.n
 rt : bnth bs 0 = true
theorem MQ.other {G : Dg} (hG : GoodG G) {k j c p : Nat} {bs : List Bool} {qs : List Nat} (h : MQ G k (if 4 * (oth G (qn qs k, j)).1 + (oth G (qn qs k, j)).2 < 4 * c + p then j + 1 else j) bs qs) (hp : p < 4) (hj : j < 4) (hu : qn qs k < G.n) (hc : c < G.n)
  (hne : G.X c p ≠ G.X (qn qs k) j ∨ bnth bs c = true) : MQ G k (if 4 * (oth G (qn qs k, j)).1 + (oth G (qn qs k, j)).2 < 4 * c + (p + 1) then j + 1 else j) bs qs := by
 have hinV : InV G (qn qs k, j) := hG.inV hu hj
 have hos := oth_spec hG hinV
 obtain ⟨w, hw⟩ : ∃ w, w = oth G (qn qs k, j) := ⟨_, rfl⟩
 rw [← hw] at h hos ⊢
 have w2 := hos.1.2.1
 by_cases e : 4 * w.1 + w.2 = 4 * c + p
 ·have e1 : w.1 = c := by omega
  have e2 : w.2 = p := by omega
  rw [if_neg (by omega)] at h
  rw [if_pos (by omega)]
  refine ⟨h.q.pass fun w' hw' => ?_, h.cnt, h.rt⟩
  obtain rfl := Option.some.inj hw'
  rw [← hw, e1]
  rcases hne with hne | hne
  ·exact absurd (by have := hos.2.2; rw [e1, e2] at this; exact this) hne
  ·exact hne
 ·have : (4 * w.1 + w.2 < 4 * c + (p + 1)) ↔ (4 * w.1 + w.2 < 4 * c + p) := by omega
  simp only [this]
  exact h
theorem MQ.hit {G : Dg} (hG : GoodG G) {k j c p : Nat} {bs : List Bool} {qs : List Nat} (h : MQ G k (if 4 * (oth G (qn qs k, j)).1 + (oth G (qn qs k, j)).2 < 4 * c + p then j + 1 else j) bs qs) (hp : p < 4) (hj : j < 4) (hk : k < qs.length) (hc : c < G.n)
  (hX : G.X c p = G.X (qn qs k) j) (hb : bnth bs c = false) : MQ G k (if 4 * (oth G (qn (qs ++ [c]) k, j)).1 + (oth G (qn (qs ++ [c]) k, j)).2 < 4 * c + (p + 1) then j + 1 else j) (bs.set c true) (qs ++ [c]) := by
 have huq := h.q.inq _ (qn_mem hk)
 have hinV : InV G (qn qs k, j) := hG.inV huq.1 hj
 have hcp : InV G (c, p) := hG.inV hc hp
 have hq : qn (qs ++ [c]) k = qn qs k := by rw [qn_snoc (by omega), if_pos hk]
 rw [hq]
 rcases same_arc hG hcp hinV hX with e | e
 ·have : c = qn qs k := congrArg Prod.fst e
  rw [this, huq.2.1] at hb; cases hb
 ·rw [← e] at h ⊢
  rw [if_neg (by simp only; omega)] at h
  rw [if_pos (by simp only; omega)]
  refine ⟨h.q.add hk hj (by unfold nbC; rw [← e]) hc, ?_, ?_⟩
  ·have := unm_set (i := c) (bs := bs) (by rw [h.q.len]; exact hc) hb
   have := h.cnt
   rw [List.length_append]; show qs.length + 1 + _ = _; omega
  ·rw [bnth_set (by rw [h.q.len]; exact hc)]
   split
   ·rfl
   ·exact h.rt
theorem MQ.start {G : Dg} (hn : 0 < G.n) : MQ G 0 0 ((List.replicate G.n false).set 0 true) [0] := by
 refine ⟨CQ.start CB.start hn, ?_, ?_⟩
 ·have h1 := unm_set (i := 0) (bs := List.replicate G.n false) (by rw [List.length_replicate]; exact hn) (bnth_rep hn)
  have h2 : unm (List.replicate G.n false) = G.n := by unfold unm; rw [List.countP_replicate]; rfl
  show 1 + unm _ = G.n
  omega
 ·rw [bnth_set (by rw [List.length_replicate]; exact hn), if_pos rfl]
theorem MQ.fin {G : Dg} (hG : GoodG G) {k : Nat} {bs : List Bool} {qs : List Nat} (h : MQ G k 0 bs qs) (hk : k = qs.length) : qs.length = G.n ↔ ∀ c, c < G.n → Conn G 0 c := by
 by_cases hn : 0 < G.n
 ·have hall := CQ.all h.q hk hn (fun i => by
   by_cases hi : i < G.n
   ·exact bnth_rep hi
   ·simp [bnth, hi]) h.rt (fun u f w hu hf hw => by
   obtain rfl := Option.some.inj hw
   exact (nb hG hu hf).1)
  have hz := unm_zero (n := G.n) h.q.len
  have hc := h.cnt
  constructor
  ·intro hq c hc'
   have : unm bs = 0 := by omega
   exact VC_conn.1 ((hall c hc').1 (hz.1 this c hc'))
  ·intro hcn
   have : unm bs = 0 := hz.2 fun i hi => (hall i hi).2 (VC_conn.2 (hcn i hi))
   omega
 ·have hc := h.cnt
  constructor
  ·intro _ c hc'; omega
  ·intro _; omega
end Go.Proofs.Ytjlkndkedknocaa
namespace Go.Proofs.Ytjlkndkedknocaa
open Go Go.Ai
attribute [local instance] Classical.propDecidable
theorem natsC_append (l : List Nat) (a : Nat) : natsC (l ++ [a]) = natsC l ++ [.int .i64 a] := by simp [natsC]
theorem natsC_qn {qs : List Nat} {t : Nat} (h : t < qs.length) : (natsC qs)[t]? = some (.int .i64 (qn qs t)) := natsC_get (by simp [qn, h])
variable {E : Env} (hE : OE E)
include hE
end Go.Proofs.Ytjlkndkedknocaa
namespace Go.Proofs.Ytjlkndkedknocaa
open Go Go.Ai
attribute [local instance] Classical.propDecidable
variable {E : Env} (hE : OE E)
include hE
end Go.Proofs.Ytjlkndkedknocaa
namespace Go.Proofs.Ytjlkndkedknocaa
open Go Go.Ai
attribute [local instance] Classical.propDecidable
structure GlM (hA h : List O) (m N : Nat) (F : Nat → Nat → Option (Nat × Bool)) : Prop where
 sub : Sub hA h
 gl : h[m + 1]? = some (.cells [.slice (some ⟨m, 0, none⟩) N N] 29 (some 0))
 at_ : ∃ cs, h[m]? = some (.cells cs 100 (some 0)) ∧ FacesC cs N F
theorem GlM.app {hA h h' : List O} {m N : Nat} {F : Nat → Nat → Option (Nat × Bool)} (k : GlM hA h m N F) (hs : Sub h h') : GlM hA h' m N F := by
 obtain ⟨k1, k2, cs, k3, k4⟩ := k
 exact ⟨k1.trans hs, hs _ _ k2, cs, hs _ _ k3, k4⟩
theorem joinF_eq (F : Nat → Nat → Option (Nat × Bool)) (ta fa tb fb : Nat) (sw : Bool) : joinF F ta fa tb fb sw = updF (updF F ta fa (some (tb, sw))) tb fb (some (ta, sw)) := rfl
def glR (G : Dg) (a : Nat) : Nat → Nat → Nat → Option (Nat × Bool)
 | 0 => glA G a
 | r + 1 => glJ G a (2 * r) (glR G a r)
variable {E : Env} (hE : OE E)
include hE
end Go.Proofs.Ytjlkndkedknocaa
namespace Go.Proofs.Ytjlkndkedknocaa
open Go Go.Ai
attribute [local instance] Classical.propDecidable
def outE (G : Dg) (t f : Nat) : Nat × Bool :=
 if 2 ≤ f then
  (if f = 3 - (t % 4 + 1) % 4 % 2 then (4 * (t / 4) + (t % 4 + 1) % 4, false) else (4 * (t / 4) + (t % 4 + 3) % 4, false))
 else if f = t % 4 % 2 then (4 * (oth G (t / 4, t % 4)).1 + ((oth G (t / 4, t % 4)).2 + 3) % 4, !decide (f = (oth G (t / 4, t % 4)).2 % 2))
 else (4 * (oth G (t / 4, (t % 4 + 1) % 4)).1 + (oth G (t / 4, (t % 4 + 1) % 4)).2, !decide (f = (oth G (t / 4, (t % 4 + 1) % 4)).2 % 2))
def plF (t f : Nat) : Nat × Nat := (t / 4, if f = t % 4 % 2 then t % 4 else (t % 4 + 1) % 4)
theorem updF_same {F : Nat → Nat → Option (Nat × Bool)} {t f : Nat} {x : Option (Nat × Bool)} : updF F t f x t f = x := by unfold updF; rw [if_pos ⟨rfl, rfl⟩]
theorem updF_else {F : Nat → Nat → Option (Nat × Bool)} {t f t' f' : Nat} {x : Option (Nat × Bool)} (h : ¬ (t' = t ∧ f' = f)) : updF F t f x t' f' = F t' f' := by unfold updF; rw [if_neg h]
theorem updF_right {G : Dg} {F : Nat → Nat → Option (Nat × Bool)} {t f t' f' : Nat} {x : Option (Nat × Bool)} (hx : x = some (outE G t f)) (h : F t' f' = some (outE G t' f') ∨ (t' = t ∧ f' = f)) : updF F t f x t' f' = some (outE G t' f') := by
 by_cases e : t' = t ∧ f' = f
 ·rw [e.1, e.2, updF_same, hx]
 ·rw [updF_else e]
  rcases h with h | h
  ·exact h
  ·exact absurd h e
theorem glC_right (G : Dg) : ∀ j t f, (∃ j', j' < j ∧ ((t = j' ∧ f = 3 - (j' % 4 + 1) % 4 % 2) ∨ (t = 4 * (j' / 4) + (j' % 4 + 1) % 4 ∧ f = 3 - (j' % 4 + 1) % 4 % 2))) → glC j t f = some (outE G t f) := by
 intro j
 induction j with
 | zero => rintro t f ⟨j', h, _⟩; omega
 | succ j ih =>
  rintro t f ⟨j', h1, h2⟩
  have hq : j % 4 < 4 := Nat.mod_lt _ (by omega)
  show updF (updF (glC j) j (3 - (j % 4 + 1) % 4 % 2) (some (4 * (j / 4) + (j % 4 + 1) % 4, false))) (4 * (j / 4) + (j % 4 + 1) % 4) (3 - (j % 4 + 1) % 4 % 2) (some (j, false)) t f = _
  have w1 : some (4 * (j / 4) + (j % 4 + 1) % 4, false) = some (outE G j (3 - (j % 4 + 1) % 4 % 2)) := by
   unfold outE
   rw [if_pos (by omega), if_pos rfl]
  have w2 : some (j, false) = some (outE G (4 * (j / 4) + (j % 4 + 1) % 4) (3 - (j % 4 + 1) % 4 % 2)) := by
   unfold outE
   have e1 : (4 * (j / 4) + (j % 4 + 1) % 4) % 4 = (j % 4 + 1) % 4 := by omega
   have e2 : (4 * (j / 4) + (j % 4 + 1) % 4) / 4 = j / 4 := by omega
   rw [if_pos (by omega), e1, e2, if_neg (by omega)]
   congr 2
   omega
  refine updF_right w2 ?_
  by_cases e : t = 4 * (j / 4) + (j % 4 + 1) % 4 ∧ f = 3 - (j % 4 + 1) % 4 % 2
  ·exact .inr e
  ·refine .inl (updF_right w1 ?_)
   by_cases e2 : t = j ∧ f = 3 - (j % 4 + 1) % 4 % 2
   ·exact .inr e2
   ·refine .inl (ih t f ⟨j', ?_, h2⟩)
    rcases Nat.lt_or_ge j' j with h3 | h3
    ·exact h3
    ·have : j' = j := by omega
     subst this
     rcases h2 with h2 | h2
     ·exact absurd h2 e2
     ·exact absurd h2 e
theorem glC_all (G : Dg) {n t f : Nat} (ht : t < 4 * n) (h2 : 2 ≤ f) (h4 : f < 4) : glC (4 * n) t f = some (outE G t f) := by
 refine glC_right G _ t f ?_
 by_cases e : f = 3 - (t % 4 + 1) % 4 % 2
 ·exact ⟨t, ht, .inl ⟨rfl, e⟩⟩
 ·refine ⟨4 * (t / 4) + (t % 4 + 3) % 4, by omega, .inr ⟨by omega, by omega⟩⟩
end Go.Proofs.Ytjlkndkedknocaa
namespace Go.Proofs.Ytjlkndkedknocaa
open Go Go.Ai
attribute [local instance] Classical.propDecidable
theorem outE_own (G : Dg) {e o : Nat × Nat} (he : e.2 < 4) (ho : oth G e = o) : outE G (4 * e.1 + e.2) (e.2 % 2) = (4 * o.1 + (o.2 + 3) % 4, !decide (e.2 % 2 = o.2 % 2)) := by
 unfold outE
 rw [if_neg (by omega), show (4 * e.1 + e.2) % 4 = e.2 by omega, show (4 * e.1 + e.2) / 4 = e.1 by omega, if_pos rfl, show oth G (e.1, e.2) = o from ho]
theorem outE_next (G : Dg) {e o : Nat × Nat} (he : e.2 < 4) (ho : oth G e = o) : outE G (4 * e.1 + (e.2 + 3) % 4) (e.2 % 2) = (4 * o.1 + o.2, !decide (e.2 % 2 = o.2 % 2)) := by
 unfold outE
 rw [if_neg (by omega), show (4 * e.1 + (e.2 + 3) % 4) % 4 = (e.2 + 3) % 4 by omega, show (4 * e.1 + (e.2 + 3) % 4) / 4 = e.1 by omega, if_neg (by omega), show ((e.2 + 3) % 4 + 1) % 4 = e.2 by omega, show oth G (e.1, e.2) = o from ho]
theorem plF_eq {t f : Nat} (h : f < 2) {e : Nat × Nat} (hp : plF t f = e) : (t = 4 * e.1 + e.2 ∧ f = e.2 % 2) ∨ (t = 4 * e.1 + (e.2 + 3) % 4 ∧ f = e.2 % 2) := by
 subst hp
 unfold plF
 by_cases c : f = t % 4 % 2
 ·left
  simp only [if_pos c]
  omega
 ·right
  simp only [if_neg c]
  omega
theorem decide_comm {a b : Nat} : decide (a = b) = decide (b = a) := by rw [decide_eq_decide]; exact eq_comm
theorem glA_right {G : Dg} (hG : GoodG G) : ∀ a, a ≤ 2 * G.n → ∀ t f, t < 4 * G.n → f < 4 → (2 ≤ f ∨ G.X (plF t f).1 (plF t f).2 < a) → glA G a t f = some (outE G t f) := by
 intro a
 induction a with
 | zero =>
  intro _ t f ht hf h
  rcases h with h | h
  ·exact glC_all G ht h hf
  ·omega
 | succ a ih =>
  intro ha t f ht hf h
  obtain ⟨t0, t1, t2, t3, x1, x2, hne⟩ := hG.T a (by omega)
  obtain ⟨e, he⟩ : ∃ e : Nat × Nat, e = (G.T a 0, G.T a 1) := ⟨_, rfl⟩
  obtain ⟨o, ho⟩ : ∃ o : Nat × Nat, o = (G.T a 2, G.T a 3) := ⟨_, rfl⟩
  have heo : oth G e = o := by
   rw [he, ho]; unfold oth
   simp only [x1, and_self, if_true]
  have hoe : oth G o = e := by
   rw [he, ho]; unfold oth
   simp only [x2]
   rw [if_neg hne]
  have he2 : e.2 < 4 := by rw [he]; exact t1
  have ho2 : o.2 < 4 := by rw [ho]; exact t3
  have a0 : alT G a 0 = 4 * e.1 + e.2 := by rw [he]; rfl
  have a1 : alT G a 1 = 4 * o.1 + (o.2 + 3) % 4 := by rw [ho]; rfl
  have a2 : alT G a 2 = 4 * e.1 + (e.2 + 3) % 4 := by rw [he]; rfl
  have a3 : alT G a 3 = 4 * o.1 + o.2 := by rw [ho]; rfl
  have b0 : alF G a 0 = e.2 % 2 := by rw [he]; rfl
  have b1 : alF G a 1 = o.2 % 2 := by rw [ho]; rfl
  have b2 : alF G a 2 = e.2 % 2 := by rw [he]; rfl
  have b3 : alF G a 3 = o.2 % 2 := by rw [ho]; rfl
  show joinF (joinF (glA G a) (alT G a 0) (alF G a 0) (alT G a 1) (alF G a 1) (!decide (alF G a 0 = alF G a 1))) (alT G a 2) (alF G a 2) (alT G a 3) (alF G a 3) (!decide (alF G a 2 = alF G a 3)) t f = _
  rw [a0, a1, a2, a3, b0, b1, b2, b3, joinF_eq, joinF_eq]
  have wA : some (4 * o.1 + (o.2 + 3) % 4, !decide (e.2 % 2 = o.2 % 2)) = some (outE G (4 * e.1 + e.2) (e.2 % 2)) := by rw [outE_own G he2 heo]
  have wB : some (4 * e.1 + e.2, !decide (e.2 % 2 = o.2 % 2)) = some (outE G (4 * o.1 + (o.2 + 3) % 4) (o.2 % 2)) := by rw [outE_next G ho2 hoe, decide_comm]
  have wC : some (4 * o.1 + o.2, !decide (e.2 % 2 = o.2 % 2)) = some (outE G (4 * e.1 + (e.2 + 3) % 4) (e.2 % 2)) := by rw [outE_next G he2 heo]
  have wD : some (4 * e.1 + (e.2 + 3) % 4, !decide (e.2 % 2 = o.2 % 2)) = some (outE G (4 * o.1 + o.2) (o.2 % 2)) := by rw [outE_own G ho2 hoe, decide_comm]
  refine updF_right wD ?_
  by_cases cD : t = 4 * o.1 + o.2 ∧ f = o.2 % 2
  ·exact .inr cD
  refine .inl (updF_right wC ?_)
  by_cases cC : t = 4 * e.1 + (e.2 + 3) % 4 ∧ f = e.2 % 2
  ·exact .inr cC
  refine .inl (updF_right wB ?_)
  by_cases cB : t = 4 * o.1 + (o.2 + 3) % 4 ∧ f = o.2 % 2
  ·exact .inr cB
  refine .inl (updF_right wA ?_)
  by_cases cA : t = 4 * e.1 + e.2 ∧ f = e.2 % 2
  ·exact .inr cA
  refine .inl (ih (by omega) t f ht hf ?_)
  rcases h with h | h
  ·exact .inl h
  ·by_cases h2 : 2 ≤ f
   ·exact .inl h2
   ·right
    rcases Nat.lt_or_ge (G.X (plF t f).1 (plF t f).2) a with h3 | h3
    ·exact h3
    ·exfalso
     have hXa : G.X (plF t f).1 (plF t f).2 = a := by omega
     have hp1 : (plF t f).1 < G.n := by show t / 4 < G.n; omega
     have hp2 : (plF t f).2 < 4 := by
      unfold plF
      simp only
      split <;> omega
     have hc := hG.cover _ _ hp1 hp2
     rw [hXa] at hc
     rcases hc with ⟨c1, c2⟩ | ⟨c1, c2⟩
     ·rcases plF_eq (by omega) (show plF t f = e by rw [he]; exact Prod.ext c1 c2) with h4 | h4
      ·exact cA h4
      ·exact cC h4
     ·rcases plF_eq (by omega) (show plF t f = o by rw [ho]; exact Prod.ext c1 c2) with h4 | h4
      ·exact cD h4
      ·exact cB h4
theorem outF_eq {G : Dg} (hG : GoodG G) {t f : Nat} (ht : t < 4 * G.n) (hf : f < 4) : outF G t f = some (outE G t f) := by
 refine glA_right hG _ (Nat.le_refl _) t f ht hf (.inr ?_)
 have hp1 : (plF t f).1 < G.n := by show t / 4 < G.n; omega
 have hp2 : (plF t f).2 < 4 := by
  unfold plF
  simp only
  split <;> omega
 exact hG.X _ _ hp1 hp2
theorem pm_lt (sw : Bool) {i : Nat} (hi : i < 4) : pm sw i < 4 := by
 cases sw <;> simp only [pm] <;> (repeat' split) <;> omega
theorem pm_pm (sw : Bool) (i : Nat) : pm sw (pm sw i) = i := by
 cases sw
 ·rfl
 ·unfold pm
  simp only [if_true]
  by_cases h0 : i = 0
  ·simp [h0]
  ·by_cases h1 : i = 1
   ·simp [h1]
   ·simp [h0, h1]
theorem outE_sym {G : Dg} (hG : GoodG G) {t f : Nat} (ht : t < 4 * G.n) (hf : f < 4) : (outE G t f).1 < 4 * G.n ∧ outE G (outE G t f).1 (pm (outE G t f).2 f) = (t, (outE G t f).2) := by
 by_cases h2 : 2 ≤ f
 ·have hpm : pm false f = f := rfl
  unfold outE
  rw [if_pos h2]
  by_cases e : f = 3 - (t % 4 + 1) % 4 % 2
  ·rw [if_pos e]
   simp only [hpm]
   refine ⟨by omega, ?_⟩
   rw [if_pos h2, if_neg (by omega)]
   refine Prod.ext ?_ rfl
   simp only
   omega
  ·rw [if_neg e]
   simp only [hpm]
   refine ⟨by omega, ?_⟩
   rw [if_pos h2, if_pos (by omega)]
   refine Prod.ext ?_ rfl
   simp only
   omega
 ·have hf2 : f < 2 := by omega
  obtain ⟨e, he⟩ : ∃ e, e = plF t f := ⟨_, rfl⟩
  have he1 : e.1 < G.n := by rw [he]; show t / 4 < G.n; omega
  have he2 : e.2 < 4 := by
   rw [he]; unfold plF
   simp only
   split <;> omega
  obtain ⟨o, ho⟩ : ∃ o, o = oth G e := ⟨_, rfl⟩
  have hos := oth_spec hG (hG.inV (x := e) he1 he2)
  have ho1 : o.1 < G.n := by rw [ho]; exact hos.1.1
  have ho2 : o.2 < 4 := by rw [ho]; exact hos.1.2.1
  have hoe : oth G o = e := by rw [ho]; exact hos.2.1
  have hpm : pm (!decide (e.2 % 2 = o.2 % 2)) (e.2 % 2) = o.2 % 2 := by
   by_cases c : e.2 % 2 = o.2 % 2
   ·rw [decide_eq_true c]; exact c
   ·rw [decide_eq_false c]
    unfold pm
    simp only [Bool.not_false, if_true]
    by_cases c0 : e.2 % 2 = 0
    ·rw [if_pos c0]; omega
    ·rw [if_neg c0, if_pos (by omega)]; omega
  rcases plF_eq hf2 he.symm with ⟨h3, h4⟩ | ⟨h3, h4⟩
  ·rw [h3, h4, outE_own G he2 ho.symm]
   refine ⟨by simp only; omega, ?_⟩
   simp only [hpm]
   rw [outE_next G ho2 hoe, decide_comm]
  ·rw [h3, h4, outE_next G he2 ho.symm]
   refine ⟨by simp only; omega, ?_⟩
   simp only [hpm]
   rw [outE_own G ho2 hoe, decide_comm]
theorem nbF_sym {G : Dg} (hG : GoodG G) {u f w : Nat} (hu : u < 16 * G.n) (hf : f < 4) (h : nbF (outF G) u f = some w) : w < 16 * G.n ∧ ∃ f', f' < 4 ∧ nbF (outF G) w f' = some u := by
 unfold nbF at h
 split at h
 ·cases h
 ·rename_i hne
  rw [outF_eq hG (by omega) hf] at h
  obtain ⟨s1, s2⟩ := outE_sym hG (t := u / 4) (f := f) (by omega) hf
  obtain rfl := Option.some.inj h
  simp only [fcT, fcP]
  have hp := pm_lt (outE G (u / 4) f).2 (i := u % 4) (Nat.mod_lt _ (by omega))
  have hpf := pm_lt (outE G (u / 4) f).2 hf
  refine ⟨by omega, pm (outE G (u / 4) f).2 f, hpf, ?_⟩
  unfold nbF
  have d1 : ((outE G (u / 4) f).1 * 4 + pm (outE G (u / 4) f).2 (u % 4)) % 4 = pm (outE G (u / 4) f).2 (u % 4) := by omega
  have d2 : ((outE G (u / 4) f).1 * 4 + pm (outE G (u / 4) f).2 (u % 4)) / 4 = (outE G (u / 4) f).1 := by omega
  rw [d1, d2, if_neg, outF_eq hG s1 hpf, s2]
  ·simp only [fcT, fcP, pm_pm]
   congr 1
   omega
  ·intro hc
   have := congrArg (pm (outE G (u / 4) f).2) hc
   rw [pm_pm, pm_pm] at this
   exact hne this
theorem VC_lt {G : Dg} (hG : GoodG G) {a b : Nat} (ha : a < 16 * G.n) (h : VC (nbF (outF G)) a b) : b < 16 * G.n := by
 induction h with
 | refl => exact ha
 | step f _ hf hw ih => exact (nbF_sym hG ih hf hw).1
theorem VC_symm {G : Dg} (hG : GoodG G) {a b : Nat} (ha : a < 16 * G.n) (h : VC (nbF (outF G)) a b) : VC (nbF (outF G)) b a := by
 induction h with
 | refl => exact .refl _
 | step f hab hf hw ih =>
  obtain ⟨_, f', hf', hw'⟩ := nbF_sym hG (VC_lt hG ha hab) hf hw
  exact ((VC.refl _).step f' hf' hw').trans ih
end Go.Proofs.Ytjlkndkedknocaa
namespace Go.Proofs.Ytjlkndkedknocaa
open Go Go.Ai
attribute [local instance] Classical.propDecidable
def edA (e : Nat) : Nat := [0, 0, 0, 1, 1, 2].getD e 0
def edB (e : Nat) : Nat := [1, 2, 3, 2, 3, 3].getD e 0
def edN (i j : Nat) : Nat := if min i j = 0 then max i j - 1 else min i j + max i j
def tyN (i j : Nat) : Nat := if min i j = 0 then max i j - 1 else 5 - i - j
theorem edN_of : ∀ i, i < 4 → ∀ j, j < 4 → i ≠ j → edN i j < 6 ∧ edA (edN i j) = min i j ∧ edB (edN i j) = max i j := by decide
theorem ed_lt : ∀ e, e < 6 → edA e < edB e ∧ edB e < 4 ∧ edN (edA e) (edB e) = e := by decide
variable {E : Env} (hE : OE E)
include hE
theorem ends6_ {h : List O} {e : Nat} (he : e < 6) : DR E 97 [.int .i64 e] ⟨h, h.length⟩ (.ret (.tuple #[.int .i64 (edA e), .int .i64 (edB e)])) ⟨h, h.length⟩ := by
 refine hE.fn (body := rb97) rfl ?_
 unfold rb97
 have w1 : IntKind.i64.wrap 1 = 1 := by decide
 have w2 : IntKind.i64.wrap 2 = 2 := by decide
 have w3 : IntKind.i64.wrap 3 = 3 := by decide
 have w4 : IntKind.i64.wrap 4 = 4 := by decide
 have w5 : IntKind.i64.wrap 5 = 5 := by decide
 have w6 : IntKind.i64.wrap 6 = 6 := by decide
 have hsc : ∀ y z : Int, (Out.ret (.tuple #[.int .i64 y, .int .i64 z])).scalar = true := fun _ _ => rfl
 rcases (show e = 0 ∨ e = 1 ∨ e = 2 ∨ e = 3 ∨ e = 4 ∨ e = 5 by omega) with rfl | rfl | rfl | rfl | rfl | rfl
 all_goals
  simp [edA, edB]
  repeat (rw [DW_loop_unfold]; simp [w1, w2, w3, w4, w5, w6, endK_ret, back, hsc])
theorem edge6_ {h : List O} {i j : Nat} (hi : i < 4) (hj : j < 4) (hij : i ≠ j) : DR E 99 [.int .i64 i, .int .i64 j] ⟨h, h.length⟩ (.ret (.int .i64 (edN i j))) ⟨h, h.length⟩ := by
 refine hE.fn (body := rb99) rfl ?_
 unfold rb99
 obtain ⟨m1, m2, m3⟩ := edN_of i hi j hj hij
 simp
 refine DW_loop (fun kk fr st => ∃ (e : Nat), e + kk = 6 ∧ e ≤ edN i j ∧ st = ⟨h, h.length⟩ ∧ get fr 0 = .int .i64 i ∧ get fr 1 = .int .i64 j ∧ get fr 5 = .int .i64 e) ?_ (k := 6) ?_
 ·rintro kk fr st ⟨e, hek, hle, rfl, g0, g1, g5⟩
  have he6 : (e : Int) < 6 := by omega
  have hw : IntKind.i64.wrap ((e : Int) + 1) = (e : Int) + 1 := by rw [w64_id] <;> omega
  have hen := ends6_ hE (h := h) (e := e) (by omega)
  obtain ⟨a1, a2, a3⟩ := ed_lt e (by omega)
  have hjn : joined ⟨h, h.length⟩ ⟨h, h.length⟩ = ⟨h, h.length⟩ := joined_mk _ _
  by_cases heq : e = edN i j
  ·rcases Nat.lt_or_ge i j with hlt | hge
   ·have b1 : edA e = i := by rw [heq, m2]; omega
    have b2 : edB e = j := by rw [heq, m3]; omega
    simp [g0, g1, g5, he6, DC_of hen, hjn, b1, b2, endK_ret, back, Out.scalar, scalar, flat1, flat]
    exact heq
   ·have b1 : edA e = j := by rw [heq, m2]; omega
    have b2 : edB e = i := by rw [heq, m3]; omega
    have hji : ¬ j = i := fun h => hij h.symm
    simp [g0, g1, g5, he6, DC_of hen, hjn, b1, b2, hji, endK_ret, back, Out.scalar, scalar, flat1, flat]
    exact heq
  ·have n1 : ¬ (edA e = i ∧ edB e = j) := fun ⟨x, y⟩ => heq (by rw [← x, ← y, a3])
   have n2 : ¬ (edA e = j ∧ edB e = i) := fun ⟨x, y⟩ => heq (by
    have : edN i j = edN j i := by unfold edN; rw [Nat.min_comm i j, Nat.max_comm i j]
    rw [this, ← x, ← y, a3])
   by_cases c1 : edA e = i
   ·have c2 : ¬ edB e = j := fun h => n1 ⟨c1, h⟩
    by_cases c3 : edA e = j
    ·exact absurd (c1.symm.trans c3) hij
    ·simp [g0, g1, g5, he6, DC_of hen, hjn, c1, c2, c3, hij, hw]
     exact ⟨kk - 1, by omega, e + 1, by omega, by omega, by omega⟩
   ·by_cases c3 : edA e = j
    ·have c4 : ¬ edB e = i := fun h => n2 ⟨c3, h⟩
     have hji : ¬ j = i := fun h => hij h.symm
     simp [g0, g1, g5, he6, DC_of hen, hjn, c3, c4, hji, hw]
     exact ⟨kk - 1, by omega, e + 1, by omega, by omega, by omega⟩
    ·simp [g0, g1, g5, he6, DC_of hen, hjn, c1, c3, hw]
     exact ⟨kk - 1, by omega, e + 1, by omega, by omega, by omega⟩
 ·exact ⟨0, by omega, by omega, rfl, by simp⟩
end Go.Proofs.Ytjlkndkedknocaa
namespace Go.Proofs.Ytjlkndkedknocaa
open Go Go.Ai
attribute [local instance] Classical.propDecidable
def permC (p : Nat → Nat) : List Value := [.int .i64 (p 0), .int .i64 (p 1), .int .i64 (p 2), .int .i64 (p 3)]
def permW (p : Nat → Nat) : Value := permV (p 0) (p 1) (p 2) (p 3)
theorem permC_get (p : Nat → Nat) {i : Nat} (hi : i < 4) : (permC p)[i]? = some (.int .i64 (p i)) := by
 match i, hi with
 | 0, _ => rfl
 | 1, _ => rfl
 | 2, _ => rfl
 | 3, _ => rfl
variable {E : Env} (hE : OE E)
include hE
theorem validR_ {h : List O} {p : Nat → Nat} (hp : PermN 4 p) : DR E 92 [permW p] ⟨h, h.length⟩ (.ret (.bool true)) ⟨h, h.length⟩ := by
 refine hE.fn (body := rb92) rfl ?_
 unfold rb92
 simp [permW, permV, List.append_assoc, rd_at0, rd_at]
 refine DW_loop (fun kk fr st => ∃ (i : Nat) (bs : List Bool), i + kk = 4 ∧ bs.length = 4 ∧ (∀ j, j < 4 → bnth bs j = decide (∃ k, k < i ∧ p k = j)) ∧ st = ⟨h ++ [O.cells (permC p) 96 (some 0), O.cells (boolsC bs) 109 (some 0)], h.length⟩ ∧
  get fr 1 = .pointer (some ⟨h.length, 0, none⟩) ∧ get fr 3 = .pointer (some ⟨h.length + 1, 0, none⟩) ∧ get fr 4 = .int .i64 i) ?_ (k := 4) ?_
 ·rintro kk fr st ⟨i, bs, hik, hl, hb, rfl, g1, g3, g4⟩
  by_cases hi : i < 4
  ·have hi' : (i : Int) < 4 := by omega
   have hw : IntKind.i64.wrap ((i : Int) + 1) = (i : Int) + 1 := by rw [w64_id] <;> omega
   have hpi := hp.lt i hi
   have e1 : ¬ ((p i : Nat) : Int) < 0 := by omega
   have e2 : ¬ (3 < ((p i : Nat) : Int)) := by omega
   have e3 : ((p i : Nat) : Int) < 4 := by omega
   have hpb : p i < bs.length := by omega
   have hpb1 : p i + 1 ≤ bs.length := by omega
   have hbf : bnth bs (p i) = false := by
    rw [hb _ hpi]
    simp only [decide_eq_false_iff_not]
    rintro ⟨k, hk, e⟩
    have := hp.inj k i (by omega) hi e
    omega
   simp [g1, g3, g4, hi', rd_at0, rd_at, permC_get p hi, e1, e2, e3, boolsC_get hpb, hbf, wrN_at, set_at, boolsC_set, hw, hpb1]
   refine ⟨kk - 1, by omega, i + 1, by omega, bs.set (p i) true, by simp [hl], fun j hj => ?_, rfl, by omega⟩
   rw [bnth_set hpb]
   split
   ·rename_i e
    rw [eq_comm, decide_eq_true_eq]
    exact ⟨i, by omega, e.symm⟩
   ·rename_i e
    rw [hb j hj, decide_eq_decide]
    constructor
    ·rintro ⟨k, hk, e2⟩; exact ⟨k, by omega, e2⟩
    ·rintro ⟨k, hk, e2⟩
     refine ⟨k, ?_, e2⟩
     rcases Nat.lt_or_ge k i with h1 | h1
     ·exact h1
     ·exact absurd (by rw [← e2, show k = i by omega]) e
  ·simp [g1, g3, g4, show ¬ ((i : Int) < 4) by omega]
 ·refine ⟨0, List.replicate 4 false, by omega, by simp, fun j hj => ?_, rfl, by simp⟩
  rw [bnth_rep hj]
  simp
theorem inverseR_ {h : List O} (sw : Bool) : DR E 93 [permW (pm sw)] ⟨h, h.length⟩ (.ret (permW (pm sw))) ⟨h, h.length⟩ := by
 refine hE.fn (body := rb93) rfl ?_
 unfold rb93
 have w1 : IntKind.i64.wrap 1 = 1 := by decide
 have w2 : IntKind.i64.wrap 2 = 2 := by decide
 have w3 : IntKind.i64.wrap 3 = 3 := by decide
 have w4 : IntKind.i64.wrap 4 = 4 := by decide
 have hv := fun h => validR_ hE (h := h) (p := pm sw) ⟨fun a ha => pm_lt sw ha, fun a b _ _ e => by rw [← pm_pm sw a, e, pm_pm]⟩
 cases sw
 all_goals
  simp [permW, permV, pm] at hv
  simp [permW, permV, pm, rdN_at0, List.append_assoc, DC_q hv, joined_fl]
  rw [DW_loop_unfold]; simp [partL, wrN_at, set_at, w1, w2, w3, w4, List.append_assoc]
  rw [DW_loop_unfold]; simp [partL, wrN_at, set_at, w1, w2, w3, w4, List.append_assoc]
  rw [DW_loop_unfold]; simp [partL, wrN_at, set_at, w1, w2, w3, w4, List.append_assoc]
  rw [DW_loop_unfold]; simp [partL, wrN_at, set_at, w1, w2, w3, w4, List.append_assoc]
  rw [DW_loop_unfold]; simp [partL, wrN_at, rdN_at, set_at, w1, w2, w3, w4, List.append_assoc, back_scalar, Out.scalar, scalar, flat1, flat]
end Go.Proofs.Ytjlkndkedknocaa
namespace Go.Ai
attribute [local instance] Classical.propDecidable
def jn (r : Nat → Nat) (a b : Nat) : Nat → Nat := fun i => if r i = max (r a) (r b) then min (r a) (r b) else r i
structure Rep (r : Nat → Nat) : Prop where
 le : ∀ i, r i ≤ i
 idem : ∀ i, r (r i) = r i
theorem jn_cases (r : Nat → Nat) (a b i : Nat) : (r i = max (r a) (r b) ∧ jn r a b i = min (r a) (r b)) ∨ (r i ≠ max (r a) (r b) ∧ jn r a b i = r i) := by
 unfold jn
 by_cases h : r i = max (r a) (r b)
 ·exact .inl ⟨h, if_pos h⟩
 ·exact .inr ⟨h, if_neg h⟩
theorem jn_ends (r : Nat → Nat) (a b : Nat) : (max (r a) (r b) = r a ∧ min (r a) (r b) = r b) ∨ (max (r a) (r b) = r b ∧ min (r a) (r b) = r a) := by omega
theorem Rep.jn {r : Nat → Nat} (h : Rep r) (a b : Nat) : Rep (jn r a b) := by
 have hm : r (min (r a) (r b)) = min (r a) (r b) := by
  rcases jn_ends r a b with ⟨_, e⟩ | ⟨_, e⟩
  ·rw [e]; exact h.idem b
  ·rw [e]; exact h.idem a
 refine ⟨fun i => ?_, fun i => ?_⟩
 ·have := h.le i
  rcases jn_cases r a b i with ⟨h1, h2⟩ | ⟨h1, h2⟩ <;> omega
 ·rcases jn_cases r a b i with ⟨h1, h2⟩ | ⟨h1, h2⟩
  ·rw [h2]
   rcases jn_cases r a b (min (r a) (r b)) with ⟨h3, h4⟩ | ⟨h3, h4⟩
   ·exact h4
   ·rw [h4]; exact hm
  ·rw [h2]
   rcases jn_cases r a b (r i) with ⟨h3, h4⟩ | ⟨h3, h4⟩
   ·rw [h.idem i] at h3; exact absurd h3 h1
   ·rw [h4]; exact h.idem i
theorem jn_eq (r : Nat → Nat) (a b : Nat) : jn r a b a = jn r a b b := by
 rcases jn_cases r a b a with ⟨h1, h2⟩ | ⟨h1, h2⟩ <;> rcases jn_cases r a b b with ⟨h3, h4⟩ | ⟨h3, h4⟩ <;> omega
theorem jn_mono {r : Nat → Nat} {a b i j : Nat} (h : r i = r j) : jn r a b i = jn r a b j := by unfold jn; rw [h]
def archR (X : Nat → Nat → Nat) : Nat → Nat → Nat
 | 0 => fun i => i
 | c + 1 => jn (archR X c) (X c 1) (X c 3)
noncomputable def cntR (r : Nat → Nat) (i : Nat) : Nat := cntP (fun b => r b = b) i
structure UF (r : Nat → Nat) (N : Nat) (up : List Int) : Prop where
 rep : Rep r
 len : up.length = N
 at_ : ∀ i, i < N → ∃ u : Nat, nth up i = u ∧ u ≤ i ∧ r u = r i ∧ (u = i ↔ r i = i)
end Go.Ai
namespace Go.Proofs.Ytjlkndkedknocaa
open Go Go.Ai
attribute [local instance] Classical.propDecidable
variable {E : Env} (hE : OE E)
include hE
end Go.Proofs.Ytjlkndkedknocaa
namespace Go.Ai
attribute [local instance] Classical.propDecidable
def idL (i : Nat) : List Int := (List.range i).map fun (j : Nat) => (j : Int)
theorem idL_length (i : Nat) : (idL i).length = i := by simp [idL]
theorem idL_nth {i j : Nat} (h : j < i) : nth (idL i) j = j := by simp [idL, nth, h]
theorem UF.start (N : Nat) : UF (fun i => i) N (idL N) := ⟨⟨fun i => Nat.le_refl _, fun i => rfl⟩, idL_length N, fun i hi => ⟨i, idL_nth hi, Nat.le_refl _, rfl, by simp⟩⟩
def tabL (f : Nat → Int) (n : Nat) : List Int := (List.range n).map f
end Go.Ai
namespace Go.Proofs.Ytjlkndkedknocaa
open Go Go.Ai
attribute [local instance] Classical.propDecidable
def arR (G : Dg) : Nat → Nat := archR G.X G.n
noncomputable def arN (G : Dg) (a : Nat) : Nat := cntR (arR G) (arR G a)
noncomputable def arC (G : Dg) : Nat := cntR (arR G) (2 * G.n)
noncomputable def arL (G : Dg) : List Int := tabL (fun a => (arN G a : Int)) (2 * G.n)
def inP (s : Int) : Nat := if s < 0 then 1 else 3
def lE (X : Nat → Nat → Nat) (s : Nat → Int) : Nat → List ((Nat × Nat) × Value × Nat)
 | 0 => []
 | c + 1 => (lE X s c ++ [((c, 0), .int .i64 (X c 0), 2 * c)]) ++ [((c, inP (s c)), .int .i64 (X c (inP (s c))), 2 * c + 1)]
def linkC (u : Value) (xa : Option Addr) (n xc : Nat) (L : Int) (av : Value) (cnt : Int) (cv : Value) (k : Int) (mv : Value) : List Value :=
 [u, .slice xa n xc, .int .i64 L, av, .int .i64 cnt, cv, .int .i64 k, mv]
def LinkP (h : List O) (pl n : Nat) (x : Nat → Nat → Int) (s : Nat → Int) (L : Int) (k : Nat) (xs : List Int) : Prop :=
 ∃ uv xa xc ab cb mb, h[pl]? = some (.cells (linkC uv xa n xc L (.slice (some ⟨ab, 0, none⟩) (2 * n) (2 * n)) (arC (dgOf n x s L) + L) (.slice (some ⟨cb, 0, none⟩) (2 * n) (2 * n)) (k + L) (.map (some mb))) 170 (some 0)) ∧
  CrossP h xa n x s ∧ h[ab]? = some (.cells (intsC (arL (dgOf n x s L))) 3 (some 0)) ∧ h[cb]? = some (.cells (intsC xs) 3 (some 0)) ∧
  h[mb]? = some (.map ((lE (dgOf n x s L).X s n).map (entG kcII)) (2 * n)) ∧ OrbI (2 * n) (nx (dgOf n x s L)) (2 * n) k xs ∧ k ≤ 2 * n
theorem LinkP.sub {h h' : List O} {pl n : Nat} {x : Nat → Nat → Int} {s : Nat → Int} {L : Int} {k : Nat} {xs : List Int} (hl : LinkP h pl n x s L k xs) (e : Sub h h') : LinkP h' pl n x s L k xs := by
 obtain ⟨uv, xa, xc, ab, cb, mb, h1, h2, h3, h4, h5, h6⟩ := hl
 exact ⟨uv, xa, xc, ab, cb, mb, e _ _ h1, h2.sub e, e _ _ h3, e _ _ h4, e _ _ h5, h6⟩
end Go.Proofs.Ytjlkndkedknocaa
namespace Go.Proofs.Ytjlkndkedknocaa
open Go Go.Ai
attribute [local instance] Classical.propDecidable
structure LkI (h0 h : List O) (a : Option Addr) (n c : Nat) (L : Int) (N : Nat) (uv : Value) (ar : List Int) (es : List MapEntry) (clock : Nat) (cnt : Int) : Prop where
 sub : Sub h0 h
 dg : AtB h h0.length (.cells [.slice a n c, .int .i64 L] 24 (some 0))
 ar : AtB h (h0.length + 1) (.cells (intsC ar) 3 (some 0))
 mp : AtB h (h0.length + 2) (.map es clock)
 lk : AtB h (h0.length + 3) (.cells (linkC uv a n c L (.slice (some ⟨h0.length + 1, 0, none⟩) N N) cnt (.slice none 0 0) 0 (.map (some (h0.length + 2)))) 170 (some 0))
theorem LkI.app {h0 h : List O} {a : Option Addr} {n c : Nat} {L : Int} {N : Nat} {uv : Value} {ar : List Int} {es : List MapEntry} {clock : Nat} {cnt : Int} (k : LkI h0 h a n c L N uv ar es clock cnt) (l : List O) : LkI h0 (h ++ l) a n c L N uv ar es clock cnt :=
 ⟨k.sub.app l, app_of k.dg l, app_of k.ar l, app_of k.mp l, app_of k.lk l⟩
theorem LkI.set {h0 h : List O} {a : Option Addr} {n c : Nat} {L : Int} {N : Nat} {uv : Value} {ar : List Int} {es : List MapEntry} {clock : Nat} {cnt : Int} (k : LkI h0 h a n c L N uv ar es clock cnt) {b : Nat} (hb : h0.length + 4 ≤ b) (o : O) : LkI h0 (h.set b o) a n c L N uv ar es clock cnt :=
 ⟨k.sub.set (by omega) o, set_ne k.dg (by omega), set_ne k.ar (by omega), set_ne k.mp (by omega), set_ne k.lk (by omega)⟩
theorem LkI.setA {h0 h : List O} {a : Option Addr} {n c : Nat} {L : Int} {N : Nat} {uv : Value} {ar ar' : List Int} {es : List MapEntry} {clock : Nat} {cnt : Int} (k : LkI h0 h a n c L N uv ar es clock cnt) : LkI h0 (h.set (h0.length + 1) (.cells (intsC ar') 3 (some 0))) a n c L N uv ar' es clock cnt :=
 ⟨k.sub.set (by omega) _, set_ne k.dg (by omega), set_self k.ar, set_ne k.mp (by omega), set_ne k.lk (by omega)⟩
theorem LkI.setL {h0 h : List O} {a : Option Addr} {n c : Nat} {L : Int} {N : Nat} {uv uv' : Value} {ar : List Int} {es : List MapEntry} {clock : Nat} {cnt cnt' : Int} (k : LkI h0 h a n c L N uv ar es clock cnt) : LkI h0 (h.set (h0.length + 3) (.cells (linkC uv' a n c L (.slice (some ⟨h0.length + 1, 0, none⟩) N N) cnt' (.slice none 0 0) 0 (.map (some (h0.length + 2)))) 170 (some 0))) a n c L N uv' ar es clock cnt' :=
 ⟨k.sub.set (by omega) _, set_ne k.dg (by omega), set_ne k.ar (by omega), set_ne k.mp (by omega), set_self k.lk⟩
variable {E : Env} (hE : OE E)
include hE
end Go.Proofs.Ytjlkndkedknocaa
namespace Go.Ai
theorem Ints.sub {h h' : List O} {v : Value} {xs : List Int} (hc : Ints h v xs) (e : ∀ (b : Nat) (o : O), h[b]? = some o → h'[b]? = some o) : Ints h' v xs := by
 obtain ⟨a, b, o, c, h1, h2, h3, h4⟩ := hc
 exact ⟨a, b, o, c, h1, h2, fun i hi => Sub.rd e (h3 i hi), h4⟩
theorem Mat.sub {h h' : List O} {v : Value} {A : List (List Int)} (hc : Mat h v A) (e : ∀ (b : Nat) (o : O), h[b]? = some o → h'[b]? = some o) : Mat h' v A := by
 obtain ⟨a, b, o, c, vs, h1, h2, h3, h4⟩ := hc
 exact ⟨a, b, o, c, vs, h1, h2, fun i hi => ⟨Sub.rd e (h3 i hi).1, (h3 i hi).2.sub e⟩, h4⟩
theorem orb_unique {N k k' : Nat} {f : Nat → Nat} {xs xs' : List Int} (h : OrbI N f N k xs) (h' : OrbI N f N k' xs') : xs = xs' ∧ k = k' := by
 obtain ⟨e1, e2⟩ := h.numb.unique h'.numb
 refine ⟨?_, e2⟩
 apply List.ext_getElem (by rw [h.len, h'.len])
 intro j h1 h2
 have hj : j < N := by rw [← h.len]; exact h1
 have e := e1 j hj
 have d1 := h.done j hj
 have d2 := h'.done j hj
 rw [← nth_eq h1, ← nth_eq h2]
 omega
end Go.Ai
namespace Go.Proofs.Ytjlkndkedknocaa
open Go Go.Ai
attribute [local instance] Classical.propDecidable
noncomputable def cpX (G : Dg) : List Int × Nat := if h : ∃ p : List Int × Nat, OrbI (2 * G.n) (nx G) (2 * G.n) p.2 p.1 then h.choose else ([], 0)
noncomputable def cpL (G : Dg) : List Int := (cpX G).1
noncomputable def cpK (G : Dg) : Nat := (cpX G).2
theorem cp_eq {G : Dg} {k : Nat} {xs : List Int} (h : OrbI (2 * G.n) (nx G) (2 * G.n) k xs) : xs = cpL G ∧ k = cpK G := by
 have hx : ∃ p : List Int × Nat, OrbI (2 * G.n) (nx G) (2 * G.n) p.2 p.1 := ⟨(xs, k), h⟩
 have hs := hx.choose_spec
 have e : cpX G = hx.choose := dif_pos hx
 unfold cpL cpK
 rw [e]
 exact orb_unique h hs
noncomputable def fstA (G : Dg) (k : Int) : Int := firstI (fun j => decide (nth (cpL G) j = k)) (2 * G.n)
noncomputable def merD (G : Dg) (k : Int) : Int := if 0 ≤ fstA G k then arN G (fstA G k).toNat + 1 else arC G - cpK G + k + 1
def LnkP (h : List O) (pl n : Nat) (x : Nat → Nat → Int) (s : Nat → Int) (L : Int) : Prop := LinkP h pl n x s L (cpK (dgOf n x s L)) (cpL (dgOf n x s L))
theorem LinkP.canon {h : List O} {pl n k : Nat} {x : Nat → Nat → Int} {s : Nat → Int} {L : Int} {xs : List Int} (hl : LinkP h pl n x s L k xs) : LnkP h pl n x s L := by
 have hl' := hl
 obtain ⟨uv, xa, xc, ab, cb, mb, h1, h2, h3, h4, h5, hO, hk⟩ := hl'
 obtain ⟨e1, e2⟩ := cp_eq (G := dgOf n x s L) hO
 unfold LnkP
 rw [← e1, ← e2]; exact hl
theorem LnkP.sub {h h' : List O} {pl n : Nat} {x : Nat → Nat → Int} {s : Nat → Int} {L : Int} (hl : LnkP h pl n x s L) (e : Sub h h') : LnkP h' pl n x s L := LinkP.sub hl e
variable {E : Env} (hE : OE E)
include hE
end Go.Proofs.Ytjlkndkedknocaa
namespace Go.Ai
theorem flat_len {v : Value} {a : Option Addr} {n c : Nat} (h : v = .slice a n c) (hf : flat v = true) : n = 0 := by
 subst h
 unfold flat at hf
 split at hf <;> first | rfl | (simp_all; done) | (rename_i e; cases e; rfl) | (cases hf)
theorem Mat.flat {h h' : List O} {v : Value} {A : List (List Int)} (hm : Mat h v A) (hf : Ai.flat v = true) : Mat h' v A := by
 obtain ⟨a, b, o, c, vs, h1, h2, h3, h4⟩ := hm
 have := flat_len h1 hf
 exact ⟨a, b, o, c, vs, h1, h2, fun i hi => by omega, h4⟩
theorem Ints.flat {h h' : List O} {v : Value} {A : List Int} (hm : Ints h v A) (hf : Ai.flat v = true) : Ints h' v A := by
 obtain ⟨a, b, o, c, h1, h2, h3, h4⟩ := hm
 have := flat_len h1 hf
 exact ⟨a, b, o, c, h1, h2, fun i hi => by omega, h4⟩
def MatN (h : List O) (lo : Nat) (v : Value) (A : List (List Int)) : Prop := ∀ h' : List O, (∀ (b : Nat) (o : O), lo ≤ b → h[b]? = some o → h'[b]? = some o) → Mat h' v A
theorem MatN.low {h : List O} {lo lo' : Nat} {v : Value} {A : List (List Int)} (k : MatN h lo v A) (hl : lo' ≤ lo) : MatN h lo' v A := fun h' hk => k h' fun b o hb => hk b o (by omega)
end Go.Ai
namespace Go.Proofs.Ytjlkndkedknocaa
open Go Go.Ai
attribute [local instance] Classical.propDecidable
noncomputable def gen (G : Dg) (a : Nat) : Int := arN G a + 1
noncomputable def relOf (G : Dg) (i : Nat) : List Int := [-(gen G (G.X i 1)) * G.s i, gen G (G.X i 0), gen G (G.X i 1) * G.s i, -(gen G (G.X i 2))]
noncomputable def relL (G : Dg) : List (List Int) := (List.range G.n).map (relOf G)
def RelsI (h : List O) (lo : Nat) (G : Dg) (i : Nat) (vs : List Value) : Prop :=
 ∀ q, q < i → ∃ b, vs[q]? = some (.slice (some ⟨b, 0, none⟩) 4 4) ∧ lo ≤ b ∧ h[b]? = some (.cells (intsC (relOf G q)) 3 (some 0))
variable {E : Env} (hE : OE E)
include hE
end Go.Proofs.Ytjlkndkedknocaa
namespace Go.Proofs.Ytjlkndkedknocaa
open Go Go.Ai
attribute [local instance] Classical.propDecidable
def crossL (x : Nat → Nat → Int) (s : Nat → Int) : Nat → List Value
 | 0 => []
 | k + 1 => crossL x s k ++ crossC (x k) (s k)
def unX (n : Nat) (x x' : Nat → Nat → Int) (i q : Nat) : Int := if i < n then x i q else x' (i - n) q + 2 * n
def unS (n : Nat) (s s' : Nat → Int) (i : Nat) : Int := if i < n then s i else s' (i - n)
def UniP (h0 : List O) (n n' : Nat) (x x' : Nat → Nat → Int) (s s' : Nat → Int) (L L' : Int) (o : Out) (st' : St) : Prop :=
 Sub h0 st'.h ∧ h0.length ≤ st'.fl ∧
   ((200 < n + n' ∨ 200 < L + L') ∧ o = .ret (.tuple #[.agg #[.slice none 0 0, .int .i64 0], .int .i64 2]) ∨
     ¬ (200 < n + n' ∨ 200 < L + L') ∧ ∃ a2, o = .ret (.tuple #[dV a2 (n + n') (n + n') (L + L'), .int .i64 0]) ∧ CrossP st'.h a2 (n + n') (unX n x x') (unS n s s'))
theorem UniP.big {h0 h : List O} {f : Nat} {n n' : Nat} {x x' : Nat → Nat → Int} {s s' : Nat → Int} {L L' : Int} (hb : 200 < n + n' ∨ 200 < L + L') (hs : Sub h0 h) (hf : h0.length ≤ f) :
  pairQ (back ⟨h0, h0.length⟩ (.ret (.tuple #[.agg #[.slice none 0 0, .int .i64 0], .int .i64 2])) ⟨h, f⟩) (UniP h0 n n' x x' s s' L L') := by
 unfold pairQ back
 split
 ·exact ⟨Sub.refl _, Nat.le_refl _, .inl ⟨hb, rfl⟩⟩
 ·exact ⟨hs, hf, .inl ⟨hb, rfl⟩⟩
variable {E : Env} (hE : OE E)
include hE
end Go.Proofs.Ytjlkndkedknocaa
namespace Go.Proofs.Ytjlkndkedknocaa
open Go Go.Ai
attribute [local instance] Classical.propDecidable
def DerP (h0 : List O) (n : Nat) (X : Nat → Nat → Int) (S : Nat → Int) (L : Int) (o : Out) (st' : St) : Prop := ∃ a, o = .ret (dV a n n L) ∧ Sub h0 st'.h ∧ h0.length ≤ st'.fl ∧ CrossP st'.h a n X S
def mirB (s : Int) : Nat := if s < 0 then 1 else 3
def mirX (x : Nat → Nat → Int) (s : Nat → Int) (i q : Nat) : Int := x i ((q + mirB (s i)) % 4)
def refX (x : Nat → Nat → Int) (i q : Nat) : Int := x i ((4 - q) % 4)
def revX (x : Nat → Nat → Int) (i q : Nat) : Int := x i ((q + 2) % 4)
def negS (s : Nat → Int) (i : Nat) : Int := -(s i)
variable {E : Env} (hE : OE E)
include hE
end Go.Proofs.Ytjlkndkedknocaa
namespace Go.Ai
attribute [local instance] Classical.propDecidable
def invN (f : List Int) : Nat → List Int
 | 0 => List.replicate f.length 0
 | i + 1 => (invN f i).set (nth f i).toNat i
def invL (f : List Int) : List Int := invN f f.length
theorem invN_length (f : List Int) : ∀ i, (invN f i).length = f.length := by
 intro i
 induction i with
 | zero => simp [invN]
 | succ i ih => simp [invN, ih]
theorem invL_length (f : List Int) : (invL f).length = f.length := invN_length f _
def InN (n : Nat) (f : List Int) : Prop := ∀ i, i < f.length → 0 ≤ nth f i ∧ nth f i < n
structure PermL (n : Nat) (f : List Int) : Prop where
 len : f.length = n
 rng : InN n f
 inj : ∀ i j, i < j → j < n → nth f i ≠ nth f j
theorem invN_at {n : Nat} {f : List Int} (h : PermL n f) : ∀ k, k ≤ n → ∀ i, i < k → nth (invN f k) (nth f i).toNat = i := by
 intro k
 induction k with
 | zero => intro _ i hi; omega
 | succ k ih =>
  intro hk i hi
  have hl := invN_length f k
  have hlen := h.len
  have rk := h.rng k (by omega)
  have ri := h.rng i (by omega)
  simp only [invN]
  rw [nth_set (by omega)]
  by_cases e : i = k
  ·rw [e, if_pos rfl]
  ·have hne := h.inj i k (by omega) (by omega)
   rw [if_neg (by omega)]
   exact ih (by omega) i (by omega)
theorem invL_at {n : Nat} {f : List Int} (h : PermL n f) {i : Nat} (hi : i < n) : nth (invL f) (nth f i).toNat = i := by
 unfold invL
 rw [h.len]
 exact invN_at h n (Nat.le_refl _) i hi
theorem PermL.onto {n : Nat} {f : List Int} (h : PermL n f) {v : Nat} (hv : v < n) : ∃ i, i < n ∧ nth f i = v := by
 obtain ⟨i, h1, h2⟩ := Go.Proofs.Ytjlkndkedknocaa.onto n (fun i => (nth f i).toNat) (fun i hi => by have := h.rng i (by rw [h.len]; exact hi); omega) (fun i j hij hj e => by
  have a := h.rng i (by rw [h.len]; omega)
  have b := h.rng j (by rw [h.len]; omega)
  have e' : (nth f i).toNat = (nth f j).toNat := e
  exact h.inj i j hij hj (by omega)) v hv
 have := h.rng i (by rw [h.len]; exact h1)
 exact ⟨i, h1, by have h2' : (nth f i).toNat = v := h2; omega⟩
theorem PermL.inv {n : Nat} {f : List Int} (h : PermL n f) : PermL n (invL f) := by
 have hl : (invL f).length = n := by rw [invL_length, h.len]
 have key : ∀ v, v < n → ∃ i, i < n ∧ nth f i = v ∧ nth (invL f) v = i := fun v hv => by
  obtain ⟨i, h1, h2⟩ := h.onto hv
  refine ⟨i, h1, h2, ?_⟩
  have := invL_at h h1
  rw [h2] at this
  exact this
 refine ⟨hl, fun v hv => ?_, fun u v huv hv e => ?_⟩
 ·obtain ⟨i, h1, h2, h3⟩ := key v (by omega)
  rw [h3]; omega
 ·obtain ⟨i, h1, h2, h3⟩ := key u (by omega)
  obtain ⟨j, h4, h5, h6⟩ := key v hv
  rw [h3, h6] at e
  have : i = j := by omega
  subst this
  omega
def actL (A B : List (List Int)) (p : Int) (y : Int) : Int := if 0 < y then nth (nthR A (y - 1).toNat) p.toNat else nth (nthR B (-y - 1).toNat) p.toNat
def actW (A B : List (List Int)) (w : List Int) (p : Int) : Int := w.foldl (actL A B) p
def actN (A B : List (List Int)) (w : List Int) (p : Int) : Nat → Int
 | 0 => p
 | j + 1 => actL A B (actN A B w p j) (nth w j)
def RowsOk (n : Nat) (A : List (List Int)) : Prop := ∀ k, k < A.length → (nthR A k).length = n ∧ InN n (nthR A k)
def LetOk (g : Nat) (w : List Int) : Prop := ∀ j, j < w.length → nth w j ≠ 0 ∧ -(g : Int) ≤ nth w j ∧ nth w j ≤ g
def TrivL (A B : List (List Int)) (w : List Int) (n : Nat) : Prop := ∀ i : Nat, i < n → actW A B w i = i
theorem Ints.at {h : List O} {v : Value} {xs : List Int} (hi : Ints h v xs) : ∃ a b o c, v = .slice a xs.length c ∧ (0 < xs.length → a = some ⟨b, o, none⟩) ∧ (∀ i, i < xs.length → rdO h[b]? (o + i) = some (.int .i64 (nth xs i))) := by
 obtain ⟨a, b, o, c, h1, h2, h3, _⟩ := hi
 exact ⟨a, b, o, c, h1, h2, fun i hi => by rw [← rd_def]; exact h3 i hi⟩
theorem Mat.at {h : List O} {v : Value} {A : List (List Int)} (hm : Mat h v A) : ∃ a b o c, ∃ vs : Nat → Value, v = .slice a A.length c ∧ (0 < A.length → a = some ⟨b, o, none⟩) ∧ (∀ i, i < A.length → rdO h[b]? (o + i) = some (vs i) ∧ Ints h (vs i) (nthR A i)) := by
 obtain ⟨a, b, o, c, vs, h1, h2, h3, _⟩ := hm
 exact ⟨a, b, o, c, vs, h1, h2, fun i hi => by rw [← rd_def]; exact h3 i hi⟩
end Go.Ai
namespace Go.Proofs.Ytjlkndkedknocaa
open Go Go.Ai
attribute [local instance] Classical.propDecidable
variable {E : Env} (hE : OE E)
include hE
end Go.Proofs.Ytjlkndkedknocaa
namespace Go.Proofs.Ytjlkndkedknocaa
open Go Go.Ai
attribute [local instance] Classical.propDecidable
variable {E : Env} (hE : OE E)
include hE
end Go.Proofs.Ytjlkndkedknocaa
namespace Go.Ai
attribute [local instance] Classical.propDecidable
theorem leastP {P : Nat → Prop} (h : ∃ m, P m) : ∃ m, P m ∧ ∀ k, k < m → ¬ P k := by
 obtain ⟨m, hm⟩ := h
 induction m using Nat.strongRecOn with
 | ind m ih =>
  by_cases hk : ∃ k, k < m ∧ P k
  ·obtain ⟨k, h1, h2⟩ := hk
   exact ih k h1 h2
  ·exact ⟨m, hm, fun k h1 h2 => hk ⟨k, h1, h2⟩⟩
theorem cnt_remove {q : Nat → Prop} {v : Nat} (hq : q v) : ∀ {M : Nat}, v < M → cntP (fun x => q x ∧ x ≠ v) M + 1 = cntP q M := by
 intro M
 induction M with
 | zero => intro h; omega
 | succ M ih =>
  intro h
  simp only [cntP]
  by_cases e : v = M
  ·subst e
   rw [if_pos hq, if_neg (fun h => h.2 rfl), cntP_congr (q := q) fun i hi => ⟨fun h => h.1, fun h => ⟨h, by omega⟩⟩]
  ·have := ih (by omega)
   by_cases hm : q M
   ·rw [if_pos hm, if_pos ⟨hm, fun e' => e e'.symm⟩]; omega
   ·rw [if_neg hm, if_neg (fun h => hm h.1)]; omega
theorem cnt_inj {M' : Nat} (φ : Nat → Nat) {q : Nat → Prop} : ∀ {M : Nat} {q' : Nat → Prop}, (∀ a, a < M → q a → φ a < M' ∧ q' (φ a)) → (∀ a b, a < M → b < M → q a → q b → φ a = φ b → a = b) → cntP q M ≤ cntP q' M' := by
 intro M
 induction M with
 | zero => intro q' _ _; simp [cntP]
 | succ M ih =>
  intro q' h1 h2
  simp only [cntP]
  by_cases hm : q M
  ·obtain ⟨k1, k2⟩ := h1 M (by omega) hm
   have hr := cnt_remove k2 k1
   have hi := ih (q' := fun x => q' x ∧ x ≠ φ M) (fun a ha hq => by
    obtain ⟨z1, z2⟩ := h1 a (by omega) hq
    exact ⟨z1, z2, fun e => by have := h2 a M (by omega) (by omega) hq hm e; omega⟩) (fun a b ha hb => h2 a b (by omega) (by omega))
   rw [if_pos hm]; omega
  ·rw [if_neg hm]
   exact ih (fun a ha => h1 a (by omega)) (fun a b ha hb => h2 a b (by omega) (by omega))
noncomputable def clsP (M : Nat) (R : Nat → Nat → Prop) (p : Nat → Prop) : Nat := cntP (fun j => p j ∧ ∀ i, i < j → ¬ R i j) M
structure EqvN (M : Nat) (R : Nat → Nat → Prop) : Prop where
 refl : ∀ a, a < M → R a a
 symm : ∀ a b, a < M → b < M → R a b → R b a
 trans : ∀ a b c, a < M → b < M → c < M → R a b → R b c → R a c
theorem cls_le {M M' : Nat} {R R' : Nat → Nat → Prop} {p p' : Nat → Prop} (φ : Nat → Nat) (hR : EqvN M R) (hR' : EqvN M' R') (h1 : ∀ a, a < M → p a → φ a < M' ∧ p' (φ a)) (h2 : ∀ a b, a < M → b < M → p a → p b → R' (φ a) (φ b) → R a b) (hp : ∀ x y, x < M' → y < M' → R' x y → p' x → p' y) : clsP M R p ≤ clsP M' R' p' := by
 have hex : ∀ a, ∃ m, a < M → p a → (m ≤ φ a ∧ R' m (φ a) ∧ ∀ k, k < m → ¬ R' k (φ a)) := fun a => by
  by_cases ha : a < M ∧ p a
  ·have hφ := (h1 a ha.1 ha.2).1
   obtain ⟨m, hm, hl⟩ := leastP (P := fun m => R' m (φ a)) ⟨φ a, hR'.refl _ hφ⟩
   refine ⟨m, fun _ _ => ⟨?_, hm, hl⟩⟩
   rcases Nat.lt_or_ge (φ a) m with h | h
   ·exact absurd (hR'.refl _ hφ) (hl _ h)
   ·exact h
  ·exact ⟨0, fun h h' => absurd ⟨h, h'⟩ ha⟩
 unfold clsP
 refine cnt_inj (fun a => (hex a).choose) (fun a ha hq => ?_) (fun a b ha hb hqa hqb he => ?_)
 ·obtain ⟨k1, k2, k3⟩ := (hex a).choose_spec ha hq.1
  obtain ⟨z1, z2⟩ := h1 a ha hq.1
  have hm : (hex a).choose < M' := by omega
  refine ⟨hm, hp _ _ z1 hm (hR'.symm _ _ hm z1 k2) z2, fun i hi hr => k3 i hi (hR'.trans _ _ _ (by omega) hm z1 hr k2)⟩
 ·obtain ⟨k1, k2, _⟩ := (hex a).choose_spec ha hqa.1
  obtain ⟨l1, l2, _⟩ := (hex b).choose_spec hb hqb.1
  have za := (h1 a ha hqa.1).1
  have zb := (h1 b hb hqb.1).1
  have he : (hex a).choose = (hex b).choose := he
  rw [← he] at l2 l1
  have hm : (hex a).choose < M' := by omega
  have hr := h2 a b ha hb hqa.1 hqb.1 (hR'.trans _ _ _ za hm zb (hR'.symm _ _ hm za k2) l2)
  rcases Nat.lt_trichotomy a b with h | h | h
  ·exact absurd hr (hqb.2 a h)
  ·exact h
  ·exact absurd (hR.symm _ _ ha hb hr) (hqa.2 b h)
end Go.Ai
namespace Go.Proofs.Ytjlkndkedknocaa
open Go Go.Ai
attribute [local instance] Classical.propDecidable
def SameR (G : Dg) (x y : Nat × Nat) : Prop := ∃ t, orb G x t = y
theorem SameR.refl (G : Dg) (x : Nat × Nat) : SameR G x x := ⟨0, rfl⟩
theorem SameR.trans {G : Dg} {x y z : Nat × Nat} (h : SameR G x y) (k : SameR G y z) : SameR G x z := by
 obtain ⟨s, rfl⟩ := h
 obtain ⟨t, rfl⟩ := k
 exact ⟨s + t, orb_add x s t⟩
theorem orb_mul {G : Dg} {x : Nat × Nat} {P : Nat} (hP : orb G x P = x) : ∀ k, orb G x (k * P) = x := by
 intro k
 induction k with
 | zero => simp [orb]
 | succ k ih => rw [Nat.succ_mul, orb_add, ih, hP]
theorem SameR.symm {G : Dg} (hG : GoodG G) {x y : Nat × Nat} (hx : InV G x) (h : SameR G x y) : SameR G y x := by
 obtain ⟨t, rfl⟩ := h
 obtain ⟨P, ⟨p1, p2, p3⟩, _⟩ := orb_period hG hx
 refine ⟨t * P - t, ?_⟩
 have : t ≤ t * P := Nat.le_mul_of_pos_right t p1
 rw [← orb_add, show t + (t * P - t) = t * P by omega]
 exact orb_mul p2 t
theorem SameR.step (G : Dg) (x : Nat × Nat) : SameR G x (nxt G x) := ⟨1, rfl⟩
theorem SameR.conn {G : Dg} (hG : GoodG G) {x y : Nat × Nat} (hx : InV G x) (h : SameR G x y) : Conn G x.1 y.1 := by
 obtain ⟨t, rfl⟩ := h
 induction t with
 | zero => exact .refl _
 | succ t ih =>
  have := orb_inV hG hx t
  exact ih.step (orb G x t).2 this.2.1
theorem mem_orbL {G : Dg} (hG : GoodG G) {x e : Nat × Nat} (hx : InV G x) : e ∈ orbL G x ↔ SameR G x e := by
 obtain ⟨⟨p1, p2, p3⟩, _⟩ := per_spec hG hx
 unfold orbL orbN
 rw [List.mem_map]
 constructor
 ·rintro ⟨i, _, rfl⟩; exact ⟨i, rfl⟩
 ·rintro ⟨t, rfl⟩
  refine ⟨t % per G x, List.mem_range.2 (Nat.mod_lt _ p1), ?_⟩
  have e : t = t / per G x * per G x + t % per G x := by have := Nat.div_add_mod t (per G x); rw [Nat.mul_comm] at this; omega
  have h := orb_add (G := G) x (t / per G x * per G x) (t % per G x)
  rw [← e, orb_mul p2] at h
  exact h.symm
theorem endOf_inV {G : Dg} (hG : GoodG G) {j : Nat} (hj : j < 4 * G.n) : InV G (endOf j) := hG.inV (by simp [endOf]; omega) (by simp [endOf]; omega)
theorem mem_vis {G : Dg} (hG : GoodG G) : ∀ j, j ≤ 4 * G.n → ∀ e, (e ∈ (vis G j).1 ↔ ∃ i, i < j ∧ SameR G (endOf i) e) := by
 intro j
 induction j with
 | zero => intro _ e; simp [vis]
 | succ j ih =>
  intro hj e
  have ih' := ih (by omega)
  simp only [vis]
  have hv := endOf_inV hG (show j < 4 * G.n by omega)
  split
  ·rename_i hm
   rw [ih']
   constructor
   ·rintro ⟨i, h1, h2⟩; exact ⟨i, by omega, h2⟩
   ·rintro ⟨i, h1, h2⟩
    by_cases h : i < j
    ·exact ⟨i, h, h2⟩
    ·obtain rfl : i = j := by omega
     obtain ⟨i', k1, k2⟩ := (ih' _).1 hm
     exact ⟨i', k1, k2.trans h2⟩
  ·rw [List.mem_append, mem_orbL hG hv, ih']
   constructor
   ·rintro (⟨i, h1, h2⟩ | h)
    ·exact ⟨i, by omega, h2⟩
    ·exact ⟨j, by omega, h⟩
   ·rintro ⟨i, h1, h2⟩
    by_cases h : i < j
    ·exact .inl ⟨i, h, h2⟩
    ·obtain rfl : i = j := by omega
     exact .inr h2
def RegN (G : Dg) (i j : Nat) : Prop := SameR G (endOf i) (endOf j)
theorem RegN.eqv {G : Dg} (hG : GoodG G) : EqvN (4 * G.n) (RegN G) :=
 ⟨fun a _ => .refl _ _, fun a b ha _ h => h.symm hG (endOf_inV hG ha), fun a b c _ _ _ h k => h.trans k⟩
theorem regs_cls {G : Dg} (hG : GoodG G) (U : Nat → Prop) : cntP (fun t => U (rhead G t)) (regs G).length = clsP (4 * G.n) (RegN G) (fun j => U (j / 4)) := by
 have key : ∀ j, j ≤ 4 * G.n → cntP (fun t => U ((((vis G j).2.getD t []).headD (0, 0)).1)) (vis G j).2.length = cntP (fun j => U (j / 4) ∧ ∀ i, i < j → ¬ RegN G i j) j := by
  intro j
  induction j with
  | zero => intro _; simp [vis, cntP]
  | succ j ih =>
   intro hj
   have ih' := ih (by omega)
   have hv := endOf_inV hG (show j < 4 * G.n by omega)
   have hm := mem_vis hG j (by omega) (endOf j)
   simp only [vis, cntP]
   split
   ·rename_i h
    obtain ⟨i, k1, k2⟩ := hm.1 h
    rw [if_neg (fun h' => h'.2 i k1 k2), ih']
    rfl
   ·rename_i h
    have hn : ∀ i, i < j → ¬ RegN G i j := fun i hi hr => h (hm.2 ⟨i, hi, hr⟩)
    obtain ⟨l, hl⟩ := orbL_head hG hv
    simp only [List.length_append, List.length_cons, List.length_nil, cntP, Nat.zero_add]
    have e1 : cntP (fun t => U (((((vis G j).2 ++ [orbL G (endOf j)]).getD t []).headD (0, 0)).1)) (vis G j).2.length = cntP (fun t => U ((((vis G j).2.getD t []).headD (0, 0)).1)) (vis G j).2.length := cntP_congr fun t ht => by
     simp only [List.getD_eq_getElem?_getD]
     rw [List.getElem?_append_left ht]
    have e2 : ((((vis G j).2 ++ [orbL G (endOf j)]).getD (vis G j).2.length []).headD (0, 0)).1 = j / 4 := by
     simp only [List.getD_eq_getElem?_getD]
     rw [List.getElem?_append_right (Nat.le_refl _), Nat.sub_self, hl]
     rfl
    rw [e1, ih', e2]
    by_cases hu : U (j / 4)
    ·rw [if_pos hu, if_pos ⟨hu, hn⟩]
    ·rw [if_neg hu, if_neg (fun h => hu h.1)]
 exact key _ (Nat.le_refl _)
theorem regs_le {G H : Dg} (hG : GoodG G) (hH : GoodG H) (φ : Nat × Nat → Nat × Nat) {c d : Nat} (hc : c < G.n) (hd : d < H.n) (h1 : ∀ x, InV G x → Conn G c x.1 → InV H (φ x) ∧ Conn H d (φ x).1) (h2 : ∀ x y, InV G x → InV G y → Conn G c x.1 → Conn G c y.1 → SameR H (φ x) (φ y) → SameR G x y) :
  cntP (fun t => Conn G c (rhead G t)) (regs G).length ≤ cntP (fun t => Conn H d (rhead H t)) (regs H).length := by
 rw [regs_cls hG, regs_cls hH]
 have he : ∀ x : Nat × Nat, x.2 < 4 → endOf (4 * x.1 + x.2) = x := fun x hx => by
  unfold endOf
  exact Prod.ext (by simp; omega) (by simp; omega)
 refine cls_le (fun j => 4 * (φ (endOf j)).1 + (φ (endOf j)).2) (RegN.eqv hG) (RegN.eqv hH) (fun a ha hp => ?_) (fun a b ha hb hpa hpb hr => ?_) fun x y hx hy hr hp => ?_
 ·obtain ⟨k1, k2⟩ := h1 _ (endOf_inV hG ha) hp
  have := k1.1
  have := k1.2.1
  refine ⟨by omega, ?_⟩
  rw [show (4 * (φ (endOf a)).1 + (φ (endOf a)).2) / 4 = (φ (endOf a)).1 by omega]
  exact k2
 ·obtain ⟨k1, _⟩ := h1 _ (endOf_inV hG ha) hpa
  obtain ⟨l1, _⟩ := h1 _ (endOf_inV hG hb) hpb
  unfold RegN at hr
  rw [he _ k1.2.1, he _ l1.2.1] at hr
  exact h2 _ _ (endOf_inV hG ha) (endOf_inV hG hb) hpa hpb hr
 ·exact hp.trans (SameR.conn hH (endOf_inV hH hx) hr)
end Go.Proofs.Ytjlkndkedknocaa
namespace Go.Proofs.Ytjlkndkedknocaa
open Go Go.Ai
attribute [local instance] Classical.propDecidable
theorem oth_ne {G : Dg} (hG : GoodG G) {x : Nat × Nat} (hx : InV G x) : oth G x ≠ x := by
 obtain ⟨t0, t1, t2, t3, t4, t5, t6⟩ := hG.T _ hx.2.2
 unfold oth
 intro h
 split at h
 ·rename_i hc
  have e1 := congrArg Prod.fst h
  have e2 := congrArg Prod.snd h
  simp only at e1 e2
  exact t6 ⟨by rw [hc.1, e1], by rw [hc.2, e2]⟩
 ·rename_i hc
  have e1 := congrArg Prod.fst h
  have e2 := congrArg Prod.snd h
  simp only at e1 e2
  exact hc ⟨e1, e2⟩
theorem oth_is {G : Dg} (hG : GoodG G) {x y : Nat × Nat} (hx : InV G x) (hy : InV G y) (hn : x ≠ y) (hX : G.X x.1 x.2 = G.X y.1 y.2) : oth G x = y := by
 have c1 := hG.cover x.1 x.2 hx.1 hx.2.1
 have c2 := hG.cover y.1 y.2 hy.1 hy.2.1
 rw [← hX] at c2
 unfold oth
 have hne : ¬ (x.1 = y.1 ∧ x.2 = y.2) := fun h => hn (Prod.ext h.1 h.2)
 split
 ·rename_i hc
  refine Prod.ext ?_ ?_ <;> simp only <;> omega
 ·rename_i hc
  refine Prod.ext ?_ ?_ <;> simp only <;> omega
def rot3 (x : Nat × Nat) : Nat × Nat := (x.1, (x.2 + 3) % 4)
theorem nxt_rot (G : Dg) (x : Nat × Nat) : nxt G x = rot3 (oth G x) := rfl
structure PlMap (G H : Dg) (κ : Nat → Nat) (φ : Nat × Nat → Nat × Nat) : Prop where
 into : ∀ x, InV G x → InV H (φ x) ∧ (φ x).1 = κ x.1
 oth : ∀ x, InV G x → φ (oth G x) = oth H (φ x)
 rot : ∀ x, InV G x → φ (rot3 x) = rot3 (φ x)
 inj : ∀ x y, InV G x → InV G y → φ x = φ y → x = y
 injK : ∀ a b, a < G.n → b < G.n → κ a = κ b → a = b
 onto : ∀ c q, c < G.n → q < 4 → ∃ p, p < 4 ∧ φ (c, p) = (κ c, q)
namespace PlMap
variable {G H : Dg} {κ : Nat → Nat} {φ : Nat × Nat → Nat × Nat} (h : PlMap G H κ φ) (hG : GoodG G) (hH : GoodG H)
include h hG hH
omit hH in
theorem orb {x : Nat × Nat} (hx : InV G x) : ∀ t, φ (orb G x t) = Go.Proofs.Ytjlkndkedknocaa.orb H (φ x) t := by
 intro t
 induction t with
 | zero => rfl
 | succ t ih =>
  have hv := orb_inV hG hx t
  have ho := (oth_spec hG hv).1
  simp only [Go.Proofs.Ytjlkndkedknocaa.orb]
  rw [nxt_rot, nxt_rot, h.rot _ ho, h.oth _ hv, ih]
omit hH in
theorem lt {c : Nat} (hc : c < G.n) : κ c < H.n := by
 have := h.into (c, 0) (hG.inV hc (by omega))
 rw [← this.2]
 exact this.1.1
omit hH in
theorem conn {c d : Nat} (hc : c < G.n) (k : Conn G c d) : Conn H (κ c) (κ d) := by
 induction k with
 | refl => exact .refl _
 | @step b q hb hq ih =>
  have hbl := hb.lt hG hc
  have hv := hG.inV (x := (b, q)) hbl hq
  obtain ⟨z1, z2⟩ := h.into _ hv
  have e := h.oth _ hv
  have o := oth_spec hG hv
  have z3 := (h.into _ o.1).2
  rw [← z3, e]
  have := ih.step (φ (b, q)).2 z1.2.1
  simp only at z2
  rwa [show (κ b, (φ (b, q)).2) = φ (b, q) from Prod.ext z2.symm rfl] at this
omit hH in
theorem back {c : Nat} (hc : c < G.n) {d : Nat} (k : Conn H (κ c) d) : ∃ a, a < G.n ∧ Conn G c a ∧ κ a = d := by
 induction k with
 | refl => exact ⟨c, hc, .refl _, rfl⟩
 | @step b q hb hq ih =>
  obtain ⟨a, ha, hca, rfl⟩ := ih
  obtain ⟨p, hp, hpe⟩ := h.onto a q ha hq
  have hv := hG.inV (x := (a, p)) ha hp
  have o := oth_spec hG hv
  refine ⟨(Go.Proofs.Ytjlkndkedknocaa.oth G (a, p)).1, o.1.1, hca.step p hp, ?_⟩
  rw [← (h.into _ o.1).2, h.oth _ hv, hpe]
omit hH in
theorem backP {c : Nat} (hc : c < G.n) {y : Nat × Nat} (hy : InV H y) (k : Conn H (κ c) y.1) : ∃ x, InV G x ∧ Conn G c x.1 ∧ φ x = y := by
 obtain ⟨a, ha, hca, he⟩ := h.back hG hc k
 obtain ⟨p, hp, hpe⟩ := h.onto a y.2 ha hy.2.1
 refine ⟨(a, p), hG.inV ha hp, hca, ?_⟩
 rw [hpe, he]
theorem plan {c : Nat} (hc : c < G.n) : cntP (fun t => Conn G c (rhead G t)) (regs G).length = cntP (fun t => Conn H (κ c) (rhead H t)) (regs H).length ∧ cntP (fun i => Conn G c i) G.n = cntP (fun i => Conn H (κ c) i) H.n := by
 have hd := h.lt hG hc
 have hex : ∀ y, ∃ x, InV H y → Conn H (κ c) y.1 → InV G x ∧ Conn G c x.1 ∧ φ x = y := fun y => by
  by_cases hy : InV H y ∧ Conn H (κ c) y.1
  ·obtain ⟨x, hx⟩ := h.backP hG hc hy.1 hy.2
   exact ⟨x, fun _ _ => hx⟩
  ·exact ⟨(0, 0), fun a b => absurd ⟨a, b⟩ hy⟩
 have hexK : ∀ d, ∃ a, Conn H (κ c) d → a < G.n ∧ Conn G c a ∧ κ a = d := fun d => by
  by_cases hy : Conn H (κ c) d
  ·obtain ⟨x, hx⟩ := h.back hG hc hy
   exact ⟨x, fun _ => hx⟩
  ·exact ⟨0, fun a => absurd a hy⟩
 constructor
 ·refine Nat.le_antisymm (regs_le hG hH φ hc hd (fun x hx k => ⟨(h.into x hx).1, by rw [(h.into x hx).2]; exact h.conn hG hc k⟩) fun x y hx hy _ _ hs => ?_) (regs_le hH hG (fun y => (hex y).choose) hd hc (fun y hy k => ?_) fun x y hx hy kx ky hs => ?_)
  ·obtain ⟨t, ht⟩ := hs
   rw [← h.orb hG hx] at ht
   exact ⟨t, h.inj _ _ (orb_inV hG hx t) hy ht⟩
  ·obtain ⟨z1, z2, _⟩ := (hex y).choose_spec hy k
   exact ⟨z1, z2⟩
  ·obtain ⟨z1, _, z3⟩ := (hex x).choose_spec hx kx
   obtain ⟨w1, _, w3⟩ := (hex y).choose_spec hy ky
   obtain ⟨t, ht⟩ := hs
   refine ⟨t, ?_⟩
   rw [← z3, ← h.orb hG z1, ht, w3]
 ·refine Nat.le_antisymm (cnt_inj κ (fun a ha k => ⟨h.lt hG ha, h.conn hG hc k⟩) fun a b ha hb _ _ e => h.injK a b ha hb e) (cnt_inj (fun d => (hexK d).choose) (fun a ha k => ?_) fun a b ha hb ka kb e => ?_)
  ·obtain ⟨z1, z2, _⟩ := (hexK a).choose_spec k
   exact ⟨z1, z2⟩
  ·obtain ⟨_, _, z3⟩ := (hexK a).choose_spec ka
   obtain ⟨_, _, w3⟩ := (hexK b).choose_spec kb
   have e : (hexK a).choose = (hexK b).choose := e
   rw [← z3, e, w3]
end PlMap
def PlanAt (G : Dg) (c : Nat) : Prop := cntP (fun t => Conn G c (rhead G t)) (regs G).length = 2 + cntP (fun i => Conn G c i) G.n
theorem PlMap.at_ {G H : Dg} {κ : Nat → Nat} {φ : Nat × Nat → Nat × Nat} (h : PlMap G H κ φ) (hG : GoodG G) (hH : GoodG H) {c : Nat} (hc : c < G.n) : PlanAt G c ↔ PlanAt H (κ c) := by
 unfold PlanAt
 obtain ⟨h1, h2⟩ := h.plan hG hH hc
 rw [h1, h2]
end Go.Proofs.Ytjlkndkedknocaa
namespace Go.Ai
attribute [local instance] Classical.propDecidable
theorem jn_same {r : Nat → Nat} {a b : Nat} (h : r a = r b) : jn r a b = r := by
 funext i
 unfold jn
 rw [h, Nat.max_self, Nat.min_self]
 split
 ·rename_i e; exact e.symm
 ·rfl
theorem jn_cnt {r : Nat → Nat} (hr : Rep r) {a b N : Nat} (ha : a < N) (hb : b < N) : (r a = r b → cntR (jn r a b) N = cntR r N) ∧ (r a ≠ r b → cntR (jn r a b) N + 1 = cntR r N) := by
 refine ⟨fun h => by rw [jn_same h], fun h => ?_⟩
 ·have la := hr.le a
  have lb := hr.le b
  have hroot : r (max (r a) (r b)) = max (r a) (r b) := by
   rcases jn_ends r a b with ⟨e, _⟩ | ⟨e, _⟩
   ·rw [e]; exact hr.idem a
   ·rw [e]; exact hr.idem b
  have hroot2 : r (min (r a) (r b)) = min (r a) (r b) := by
   rcases jn_ends r a b with ⟨_, e⟩ | ⟨_, e⟩
   ·rw [e]; exact hr.idem b
   ·rw [e]; exact hr.idem a
  unfold cntR
  rw [← cnt_remove (q := fun i => r i = i) hroot (show max (r a) (r b) < N by omega)]
  congr 1
  refine cntP_congr fun i hi => ?_
  rcases jn_cases r a b i with ⟨h1, h2⟩ | ⟨h1, h2⟩
  ·rw [h2]
   constructor
   ·intro e
    rw [← e, hroot2] at h1
    omega
   ·rintro ⟨e1, e2⟩; rw [h1] at e1; exact absurd e1.symm e2
  ·rw [h2]
   constructor
   ·intro e; exact ⟨e, fun e2 => h1 (by rw [e, e2])⟩
   ·intro e; exact e.1
end Go.Ai
namespace Go.Proofs.Ytjlkndkedknocaa
open Go Go.Ai
attribute [local instance] Classical.propDecidable
def bP (G : Dg) (a : Nat) : Nat × Nat := (G.T a 0, G.T a 1)
def eP (G : Dg) (a : Nat) : Nat × Nat := (G.T a 2, G.T a 3)
theorem bP_in {G : Dg} (hG : GoodG G) {a : Nat} (ha : a < 2 * G.n) : InV G (bP G a) ∧ G.X (bP G a).1 (bP G a).2 = a := by
 obtain ⟨t0, t1, t2, t3, t4, t5, t6⟩ := hG.T a ha
 exact ⟨hG.inV t0 t1, t4⟩
theorem eP_in {G : Dg} (hG : GoodG G) {a : Nat} (ha : a < 2 * G.n) : InV G (eP G a) ∧ G.X (eP G a).1 (eP G a).2 = a := by
 obtain ⟨t0, t1, t2, t3, t4, t5, t6⟩ := hG.T a ha
 exact ⟨hG.inV t2 t3, t5⟩
theorem at_be {G : Dg} (hG : GoodG G) {x : Nat × Nat} (hx : InV G x) : x = bP G (G.X x.1 x.2) ∨ x = eP G (G.X x.1 x.2) := by
 rcases hG.cover x.1 x.2 hx.1 hx.2.1 with ⟨h1, h2⟩ | ⟨h1, h2⟩
 ·exact .inl (Prod.ext h1 h2)
 ·exact .inr (Prod.ext h1 h2)
theorem be_ne {G : Dg} (hG : GoodG G) {a : Nat} (ha : a < 2 * G.n) : bP G a ≠ eP G a := fun e => by
 obtain ⟨t0, t1, t2, t3, t4, t5, t6⟩ := hG.T a ha
 exact t6 ⟨congrArg Prod.fst e, congrArg Prod.snd e⟩
theorem oth_b {G : Dg} (hG : GoodG G) {a : Nat} (ha : a < 2 * G.n) : oth G (bP G a) = eP G a :=
 oth_is hG (bP_in hG ha).1 (eP_in hG ha).1 (be_ne hG ha) (by rw [(bP_in hG ha).2, (eP_in hG ha).2])
theorem oth_e {G : Dg} (hG : GoodG G) {a : Nat} (ha : a < 2 * G.n) : oth G (eP G a) = bP G a :=
 oth_is hG (eP_in hG ha).1 (bP_in hG ha).1 (be_ne hG ha).symm (by rw [(bP_in hG ha).2, (eP_in hG ha).2])
def rK (G : Dg) : Nat → Nat → Nat
 | 0 => fun i => i
 | k + 1 => jn (rK G k) (bP G k).1 (eP G k).1
theorem rK_rep (G : Dg) : ∀ k, Rep (rK G k) := by
 intro k
 induction k with
 | zero => exact ⟨fun i => Nat.le_refl _, fun i => rfl⟩
 | succ k ih => exact ih.jn _ _
def inF (G : Dg) (k : Nat) : Prop := rK G k (bP G k).1 ≠ rK G k (eP G k).1
theorem rK_cnt {G : Dg} (hG : GoodG G) : ∀ k, k ≤ 2 * G.n → cntR (rK G k) G.n + cntP (inF G) k = G.n := by
 intro k
 induction k with
 | zero => intro _; simp only [cntP, Nat.add_zero]; unfold cntR rK; exact cntP_all fun i _ => rfl
 | succ k ih =>
  intro hk
  have h1 := ih (by omega)
  have h2 := jn_cnt (rK_rep G k) (N := G.n) (bP_in hG (show k < 2 * G.n by omega)).1.1 (eP_in hG (show k < 2 * G.n by omega)).1.1
  simp only [cntP, rK]
  by_cases hF : inF G k
  ·have := h2.2 hF
   rw [if_pos hF]; omega
  ·have := h2.1 (Classical.not_not.1 hF)
   rw [if_neg hF]; omega
theorem rK_mono {G : Dg} {k m i j : Nat} (h : k ≤ m) (e : rK G k i = rK G k j) : rK G m i = rK G m j := by
 induction h with
 | refl => exact e
 | step _ ih => exact jn_mono ih
theorem rK_conn {G : Dg} (hG : GoodG G) : ∀ k, k ≤ 2 * G.n → ∀ i, i < G.n → rK G k i < G.n ∧ Conn G i (rK G k i) := by
 intro k
 induction k with
 | zero => intro _ i hi; exact ⟨hi, .refl _⟩
 | succ k ih =>
  intro hk i hi
  have ih' := ih (by omega)
  have hb := (bP_in hG (show k < 2 * G.n by omega)).1
  have he := (eP_in hG (show k < 2 * G.n by omega)).1
  have hbe : Conn G (bP G k).1 (eP G k).1 := by
   have := (Conn.refl (G := G) (bP G k).1).step (bP G k).2 hb.2.1
   rwa [show ((bP G k).1, (bP G k).2) = bP G k from rfl, oth_b hG (by omega)] at this
  have c1 := (ih' _ hb.1)
  have c2 := (ih' _ he.1)
  have cb : Conn G (rK G k (bP G k).1) (rK G k (eP G k).1) := ((c1.2.symm hG hb.1).trans hbe).trans c2.2
  simp only [rK]
  rcases jn_cases (rK G k) (bP G k).1 (eP G k).1 i with ⟨h1, h2⟩ | ⟨h1, h2⟩
  ·rw [h2]
   have ci := (ih' i hi).2
   rw [h1] at ci
   rcases jn_ends (rK G k) (bP G k).1 (eP G k).1 with ⟨e1, e2⟩ | ⟨e1, e2⟩
   ·rw [e2]; rw [e1] at ci; exact ⟨c2.1, ci.trans cb⟩
   ·rw [e2]; rw [e1] at ci; exact ⟨c1.1, ci.trans (cb.symm hG c1.1)⟩
  ·rw [h2]; exact ih' i hi
theorem rK_iff {G : Dg} (hG : GoodG G) {i j : Nat} (hi : i < G.n) (hj : j < G.n) : rK G (2 * G.n) i = rK G (2 * G.n) j ↔ Conn G i j := by
 constructor
 ·intro e
  have h1 := rK_conn hG (2 * G.n) (Nat.le_refl _) i hi
  have h2 := rK_conn hG (2 * G.n) (Nat.le_refl _) j hj
  rw [← e] at h2
  exact h1.2.trans (h2.2.symm hG hj)
 ·intro h
  induction h with
  | refl => rfl
  | @step b q hb hq ih =>
   have hbl := hb.lt hG hi
   rw [ih hbl]
   have hv := hG.inV (x := (b, q)) hbl hq
   have hk : rK G (G.X b q + 1) (bP G (G.X b q)).1 = rK G (G.X b q + 1) (eP G (G.X b q)).1 := jn_eq _ _ _
   have hm := rK_mono (m := 2 * G.n) (by have := hv.2.2; simp only at this; omega) hk
   have ha : G.X b q < 2 * G.n := hv.2.2
   rcases at_be hG hv with e | e
   ·simp only at e
    have eo := oth_b hG ha
    rw [← e] at hm eo
    rw [eo]; exact hm
   ·simp only at e
    have eo := oth_e hG ha
    rw [← e] at hm eo
    rw [eo]; exact hm.symm
theorem forest {G : Dg} (hG : GoodG G) {sat : Nat → Prop} {c0 : Nat} (h1 : ∀ a, a < 2 * G.n → ¬ inF G a → sat a) (h2 : ∀ c q, c < G.n → c ≠ c0 → q < 4 → (∀ q', q' < 4 → q' ≠ q → sat (G.X c q')) → sat (G.X c q)) : ∀ a, a < 2 * G.n → sat a := by
 have key : ∀ k, k ≤ 2 * G.n → ∀ (w : Nat) (x0 : Nat × Nat), (∀ c, c < G.n → rK G k c = w → c ≠ c0) → InV G x0 → rK G k x0.1 = w → (∀ x, InV G x → rK G k x.1 = w → x ≠ x0 → k ≤ G.X x.1 x.2 → sat (G.X x.1 x.2)) → k ≤ G.X x0.1 x0.2 → sat (G.X x0.1 x0.2) := by
  intro k
  induction k with
  | zero =>
   intro _ w x0 hc hx hw hs _
   refine h2 x0.1 x0.2 hx.1 (hc _ hx.1 hw) hx.2.1 fun q' hq' hne => ?_
   exact hs (x0.1, q') (hG.inV hx.1 hq') hw (fun e => hne (congrArg Prod.snd e)) (Nat.zero_le _)
  | succ k ih =>
   intro hk w x0 hc hx hw hs hkx
   have hkl : k < 2 * G.n := by omega
   have ih' := ih (by omega)
   by_cases hF : inF G k
   ·obtain ⟨hb, hbX⟩ := bP_in hG hkl
    obtain ⟨he, heX⟩ := eP_in hG hkl
    have hup : ∀ i j, rK G k i = rK G k j → rK G (k + 1) i = rK G (k + 1) j := fun i j => rK_mono (Nat.le_succ k)
    have hbe : rK G (k + 1) (bP G k).1 = rK G (k + 1) (eP G k).1 := jn_eq _ _ _
    have onk : ∀ x, InV G x → G.X x.1 x.2 = k → x = bP G k ∨ x = eP G k := fun x hv e => by
     have := at_be hG hv
     rwa [e] at this
    by_cases wb : rK G k x0.1 = rK G k (bP G k).1
    ·have we : ∀ i, rK G k i = rK G k (eP G k).1 → rK G (k + 1) i = w := fun i e => by rw [hup _ _ e, ← hbe, ← hup _ _ wb, hw]
     have hsk : sat k := by
      have := ih' (rK G k (eP G k).1) (eP G k) (fun c hcl e => hc c hcl (we c e)) he rfl (fun x hv ew hne hkx' => ?_) (by rw [heX]; exact Nat.le_refl _)
      ·rwa [heX] at this
      ·have hnk : G.X x.1 x.2 ≠ k := fun e => by
        rcases onk x hv e with rfl | rfl
        ·exact hF ew
        ·exact hne rfl
       exact hs x hv (we _ ew) (fun e => hF (by rw [← wb, ← e]; exact ew)) (by omega)
     refine ih' _ x0 (fun c hcl e => hc c hcl (by rw [hup _ _ e, hw])) hx rfl (fun x hv ew hne hkx' => ?_) (by omega)
     by_cases e : G.X x.1 x.2 = k
     ·rw [e]; exact hsk
     ·exact hs x hv (by rw [hup _ _ ew, hw]) hne (by omega)
    ·by_cases we' : rK G k x0.1 = rK G k (eP G k).1
     ·have we : ∀ i, rK G k i = rK G k (bP G k).1 → rK G (k + 1) i = w := fun i e => by rw [hup _ _ e, hbe, ← hup _ _ we', hw]
      have hsk : sat k := by
       have := ih' (rK G k (bP G k).1) (bP G k) (fun c hcl e => hc c hcl (we c e)) hb rfl (fun x hv ew hne hkx' => ?_) (by rw [hbX]; exact Nat.le_refl _)
       ·rwa [hbX] at this
       ·have hnk : G.X x.1 x.2 ≠ k := fun e => by
         rcases onk x hv e with rfl | rfl
         ·exact hne rfl
         ·exact hF ew.symm
        exact hs x hv (we _ ew) (fun e => wb (by rw [← e]; exact ew)) (by omega)
      refine ih' _ x0 (fun c hcl e => hc c hcl (by rw [hup _ _ e, hw])) hx rfl (fun x hv ew hne hkx' => ?_) (by omega)
      by_cases e : G.X x.1 x.2 = k
      ·rw [e]; exact hsk
      ·exact hs x hv (by rw [hup _ _ ew, hw]) hne (by omega)
     ·refine ih' _ x0 (fun c hcl e => hc c hcl (by rw [hup _ _ e, hw])) hx rfl (fun x hv ew hne hkx' => ?_) (by omega)
      by_cases e : G.X x.1 x.2 = k
      ·rcases onk x hv e with rfl | rfl
       ·exact absurd ew.symm wb
       ·exact absurd ew.symm we'
      ·exact hs x hv (by rw [hup _ _ ew, hw]) hne (by omega)
   ·have hsame : rK G (k + 1) = rK G k := jn_same (Classical.not_not.1 hF)
    rw [hsame] at hc hw hs
    refine ih' w x0 hc hx hw (fun x hv ew hne hkx' => ?_) (by omega)
    by_cases e : G.X x.1 x.2 = k
    ·rw [e]; exact h1 k hkl hF
    ·exact hs x hv ew hne (by omega)
 have down : ∀ m, m ≤ 2 * G.n → ∀ a, 2 * G.n - m ≤ a → a < 2 * G.n → sat a := by
  intro m
  induction m with
  | zero => intro _ a h3 h4; omega
  | succ m ih =>
   intro hm a h3 h4
   by_cases hlt : 2 * G.n - m ≤ a
   ·exact ih (by omega) a hlt h4
   ·by_cases hF : inF G a
    ·obtain ⟨hb, hbX⟩ := bP_in hG h4
     obtain ⟨he, heX⟩ := eP_in hG h4
     have onk : ∀ x, InV G x → G.X x.1 x.2 = a → x = bP G a ∨ x = eP G a := fun x hv e => by
      have := at_be hG hv
      rwa [e] at this
     have big : ∀ x, InV G x → a ≤ G.X x.1 x.2 → G.X x.1 x.2 ≠ a → sat (G.X x.1 x.2) := fun x hv h5 h6 => ih (by omega) _ (by omega) hv.2.2
     by_cases hc0 : rK G a c0 = rK G a (bP G a).1
     ·have := key a (by omega) (rK G a (eP G a).1) (eP G a) (fun c _ e hcc => hF (by rw [← hc0, ← hcc]; exact e)) he rfl (fun x hv ew hne hx => big x hv hx fun e => ?_) (by rw [heX]; exact Nat.le_refl _)
      ·rwa [heX] at this
      ·rcases onk x hv e with rfl | rfl
       ·exact hF ew
       ·exact hne rfl
     ·have := key a (by omega) (rK G a (bP G a).1) (bP G a) (fun c _ e hcc => hc0 (by rw [← hcc]; exact e)) hb rfl (fun x hv ew hne hx => big x hv hx fun e => ?_) (by rw [hbX]; exact Nat.le_refl _)
      ·rwa [hbX] at this
      ·rcases onk x hv e with rfl | rfl
       ·exact hne rfl
       ·exact hF ew.symm
    ·exact h1 a h4 hF
 exact fun a ha => down (2 * G.n) (Nat.le_refl _) a (by omega) ha
end Go.Proofs.Ytjlkndkedknocaa
namespace Go.Ai
attribute [local instance] Classical.propDecidable
theorem cnt_split (p q : Nat → Prop) : ∀ n, cntP p n = cntP (fun i => p i ∧ q i) n + cntP (fun i => p i ∧ ¬ q i) n := by
 intro n
 induction n with
 | zero => rfl
 | succ n ih =>
  simp only [cntP]
  by_cases hp : p n
  ·by_cases hq : q n
   ·rw [if_pos hp, if_pos ⟨hp, hq⟩, if_neg (fun h => h.2 hq)]; omega
   ·rw [if_pos hp, if_neg (fun h => hq h.2), if_pos ⟨hp, hq⟩]; omega
  ·rw [if_neg hp, if_neg (fun h => hp h.1), if_neg (fun h => hp h.1)]; omega
theorem cnt_not (p : Nat → Prop) : ∀ n, cntP p n + cntP (fun i => ¬ p i) n = n := by
 intro n
 induction n with
 | zero => rfl
 | succ n ih =>
  simp only [cntP]
  by_cases hp : p n
  ·rw [if_pos hp, if_neg (fun h => h hp)]; omega
  ·rw [if_neg hp, if_pos hp]; omega
theorem cnt_full {p q : Nat → Prop} {n : Nat} (h : cntP p n ≤ cntP (fun i => p i ∧ q i) n) {i : Nat} (hi : i < n) (hp : p i) : q i := by
 refine Classical.not_not.1 fun hq => ?_
 have h1 := cnt_split p q n
 have h2 : 0 < cntP (fun i => p i ∧ ¬ q i) n := cntP_pos hi ⟨hp, hq⟩
 omega
class Gp (M : Type) extends Mul M where
 e : M
 inv : M → M
 assoc : ∀ a b c : M, a * b * c = a * (b * c)
 e_mul : ∀ a : M, e * a = a
 mul_e : ∀ a : M, a * e = a
 inv_mul : ∀ a : M, inv a * a = e
 mul_inv : ∀ a : M, a * inv a = e
namespace Gp
variable {M : Type} [Gp M]
theorem cancelL {a b c : M} (h : a * b = a * c) : b = c := by
 have := congrArg (inv a * ·) h
 simpa only [← assoc, inv_mul, e_mul] using this
theorem cancelR {a b c : M} (h : b * a = c * a) : b = c := by
 have := congrArg (· * inv a) h
 simpa only [assoc, mul_inv, mul_e] using this
theorem eq_mul_inv {a b c : M} : a = b * inv c ↔ a * c = b := by
 constructor
 ·rintro rfl; rw [assoc, inv_mul, mul_e]
 ·rintro rfl; rw [assoc, mul_inv, mul_e]
end Gp
end Go.Ai
namespace Go.Proofs.Ytjlkndkedknocaa
open Go Go.Ai
attribute [local instance] Classical.propDecidable
def idP (x : Nat × Nat) : Nat := 4 * x.1 + x.2
theorem idP_lt {G : Dg} {x : Nat × Nat} (hx : InV G x) : idP x < 4 * G.n := by have := hx.1; have := hx.2.1; unfold idP; omega
theorem endOf_id {x : Nat × Nat} (hx : x.2 < 4) : endOf (idP x) = x := by
 unfold endOf idP
 exact Prod.ext (by simp; omega) (by simp; omega)
theorem id_endOf (j : Nat) : idP (endOf j) = j := by unfold endOf idP; simp; omega
theorem least_reg {G : Dg} (j : Nat) : ∃ m, (SameR G (endOf m) (endOf j)) ∧ ∀ k, k < m → ¬ SameR G (endOf k) (endOf j) := leastP (P := fun m => SameR G (endOf m) (endOf j)) ⟨j, .refl _ _⟩
noncomputable def rR0 (G : Dg) (j : Nat) : Nat := if j < 4 * G.n then (least_reg (G := G) j).choose else j
section
variable {G : Dg} (hG : GoodG G)
theorem rR0_le (j : Nat) : rR0 G j ≤ j := by
 unfold rR0
 split
 ·obtain ⟨_, h2⟩ := (least_reg (G := G) j).choose_spec
  rcases Nat.lt_or_ge j (least_reg (G := G) j).choose with h | h
  ·exact absurd (.refl _ _) (h2 j h)
  ·exact h
 ·exact Nat.le_refl _
theorem rR0_same {j : Nat} (hj : j < 4 * G.n) : SameR G (endOf (rR0 G j)) (endOf j) ∧ ∀ k, k < rR0 G j → ¬ SameR G (endOf k) (endOf j) := by
 unfold rR0
 rw [if_pos hj]
 exact (least_reg (G := G) j).choose_spec
include hG
theorem rR0_iff {i j : Nat} (hi : i < 4 * G.n) (hj : j < 4 * G.n) : rR0 G i = rR0 G j ↔ RegN G i j := by
 obtain ⟨a1, a2⟩ := rR0_same hi
 obtain ⟨b1, b2⟩ := rR0_same hj
 have li := rR0_le (G := G) i
 have lj := rR0_le (G := G) j
 have vi := endOf_inV hG (show rR0 G i < 4 * G.n by omega)
 have vj := endOf_inV hG (show rR0 G j < 4 * G.n by omega)
 constructor
 ·intro e
  rw [← e] at b1
  exact (a1.symm hG vi).trans b1
 ·intro h
  rcases Nat.lt_trichotomy (rR0 G i) (rR0 G j) with hl | hl | hl
  ·exact absurd (a1.trans h) (b2 _ hl)
  ·exact hl
  ·exact absurd (b1.trans (SameR.symm hG (endOf_inV hG hi) h)) (a2 _ hl)
theorem rR0_rep : Rep (rR0 G) := by
 refine ⟨rR0_le, fun i => ?_⟩
 by_cases hi : i < 4 * G.n
 ·have := rR0_le (G := G) i
  exact (rR0_iff hG (by omega) hi).2 (rR0_same hi).1
 ·unfold rR0; rw [if_neg hi, if_neg hi]
theorem rR0_cnt : cntR (rR0 G) (4 * G.n) = (regs G).length := by
 have h := regs_cls hG fun _ => True
 rw [cntP_all fun _ _ => trivial] at h
 rw [h]
 unfold cntR clsP
 refine cntP_congr fun j hj => ?_
 obtain ⟨a1, a2⟩ := rR0_same hj
 have lj := rR0_le (G := G) j
 constructor
 ·intro e
  rw [e] at a2
  exact ⟨trivial, a2⟩
 ·rintro ⟨_, h2⟩
  rcases Nat.lt_or_ge (rR0 G j) j with hl | hl
  ·exact absurd a1 (h2 _ hl)
  ·omega
theorem regs_total (hP : PlanG G) : (regs G).length = G.n + 2 * cntR (rK G (2 * G.n)) G.n := by
 have key : ∀ m (U : Nat → Prop), (∀ a b, a < G.n → U a → Conn G a b → U b) → cntP U G.n = m → cntP (fun t => U (rhead G t)) (regs G).length = m + 2 * cntP (fun c => U c ∧ ∀ i, i < c → ¬ Conn G i c) G.n := by
  intro m
  induction m using Nat.strongRecOn with
  | ind m ih =>
   intro U hU hm
   by_cases hc : ∃ c, c < G.n ∧ U c
   ·obtain ⟨c, hc1, hc2⟩ := hc
    have s1 := cnt_split U (fun i => Conn G c i) G.n
    have s2 := cnt_split (fun t => U (rhead G t)) (fun t => Conn G c (rhead G t)) (regs G).length
    have s3 := cnt_split (fun d => U d ∧ ∀ i, i < d → ¬ Conn G i d) (fun i => Conn G c i) G.n
    have e1 : cntP (fun i => U i ∧ Conn G c i) G.n = cntP (fun i => Conn G c i) G.n := cntP_congr fun i _ => ⟨fun h => h.2, fun h => ⟨hU c i hc1 hc2 h, h⟩⟩
    have e2 : cntP (fun t => U (rhead G t) ∧ Conn G c (rhead G t)) (regs G).length = cntP (fun t => Conn G c (rhead G t)) (regs G).length := cntP_congr fun t _ => ⟨fun h => h.2, fun h => ⟨hU c _ hc1 hc2 h, h⟩⟩
    have p1 := hP c hc1
    have p2 : 0 < cntP (fun i => Conn G c i) G.n := cntP_pos hc1 (.refl c)
    have hi := ih (cntP (fun i => U i ∧ ¬ Conn G c i) G.n) (by omega) (fun i => U i ∧ ¬ Conn G c i) (fun a b ha h1 h2 => ⟨hU a b ha h1.1 h2, fun h3 => h1.2 (h3.trans (h2.symm hG ha))⟩) rfl
    have e3 : cntP (fun d => (U d ∧ ∀ i, i < d → ¬ Conn G i d) ∧ ¬ Conn G c d) G.n = cntP (fun d => (U d ∧ ¬ Conn G c d) ∧ ∀ i, i < d → ¬ Conn G i d) G.n := cntP_congr fun d _ => ⟨fun h => ⟨⟨h.1.1, h.2⟩, h.1.2⟩, fun h => ⟨⟨h.1.1, h.2⟩, h.1.2⟩⟩
    have e4 : cntP (fun d => (U d ∧ ∀ i, i < d → ¬ Conn G i d) ∧ Conn G c d) G.n = 1 := by
     obtain ⟨m0, h0, hl⟩ := leastP (P := fun m => Conn G m c) ⟨c, .refl c⟩
     have hm0 : m0 ≤ c := by
      rcases Nat.lt_or_ge c m0 with h | h
      ·exact absurd (.refl c) (hl c h)
      ·exact h
     have hq : (fun d => (U d ∧ ∀ i, i < d → ¬ Conn G i d) ∧ Conn G c d) m0 := by
      have hcm := h0.symm hG (by omega)
      exact ⟨⟨hU c m0 hc1 hc2 hcm, fun i hi hn => hl i hi (hn.trans h0)⟩, hcm⟩
     have hr := cnt_remove (q := fun d => (U d ∧ ∀ i, i < d → ¬ Conn G i d) ∧ Conn G c d) hq (show m0 < G.n by omega)
     rw [← hr, cntP_zero]
     rintro d hd ⟨⟨⟨_, k2⟩, k3⟩, k4⟩
     rcases Nat.lt_trichotomy d m0 with h | h | h
     ·exact hl d h (k3.symm hG hc1)
     ·exact k4 h
     ·exact k2 m0 h (h0.trans k3)
    rw [e3] at s3
    omega
   ·have hz : m = 0 := by
     rw [← hm]
     exact cntP_zero fun i hi h => hc ⟨i, hi, h⟩
    subst hz
    rw [cntP_zero, cntP_zero]
    ·intro i hi h; exact hc ⟨i, hi, h.1⟩
    ·intro t ht h; exact hc ⟨_, rhead_lt hG ht, h⟩
 have h := key G.n (fun _ => True) (fun _ _ _ _ _ => trivial) (cntP_all fun _ _ => trivial)
 rw [cntP_all fun _ _ => trivial] at h
 rw [h]
 congr 2
 unfold cntR
 refine cntP_congr fun c hc => ?_
 have hr := rK_rep G (2 * G.n)
 constructor
 ·rintro ⟨_, h2⟩
  have h3 := rK_conn hG (2 * G.n) (Nat.le_refl _) c hc
  rcases Nat.lt_or_ge (rK G (2 * G.n) c) c with hl | hl
  ·exact absurd (h3.2.symm hG hc) (h2 _ hl)
  ·have := hr.le c; omega
 ·intro e
  refine ⟨trivial, fun i hi hn => ?_⟩
  have := (rK_iff hG (by omega) hc).2 hn
  have := hr.le i
  omega
end
noncomputable def rR (G : Dg) : Nat → Nat → Nat
 | 0 => rR0 G
 | k + 1 => if inF G k then rR G k else jn (rR G k) (idP (bP G k)) (idP (eP G k))
section
variable {G : Dg} (hG : GoodG G)
theorem rR_mono {k m i j : Nat} (h : k ≤ m) (e : rR G k i = rR G k j) : rR G m i = rR G m j := by
 induction h with
 | refl => exact e
 | step _ ih =>
  simp only [rR]
  split
  ·exact ih
  ·exact jn_mono ih
theorem rR_be {k m : Nat} (h : k < m) (hF : ¬ inF G k) : rR G m (idP (bP G k)) = rR G m (idP (eP G k)) := by
 refine rR_mono (k := k + 1) h ?_
 simp only [rR]
 rw [if_neg hF]
 exact jn_eq _ _ _
include hG
theorem rR_rep : ∀ k, Rep (rR G k) := by
 intro k
 induction k with
 | zero => exact rR0_rep hG
 | succ k ih =>
  simp only [rR]
  split
  ·exact ih
  ·exact ih.jn _ _
theorem rR_cnt : ∀ k, k ≤ 2 * G.n → cntR (rR G k) (4 * G.n) + cntP (fun a => ¬ inF G a ∧ rR G a (idP (bP G a)) ≠ rR G a (idP (eP G a))) k = (regs G).length := by
 intro k
 induction k with
 | zero => intro _; simp only [cntP, Nat.add_zero, rR]; exact rR0_cnt hG
 | succ k ih =>
  intro hk
  have h1 := ih (by omega)
  have h2 := jn_cnt (rR_rep hG k) (N := 4 * G.n) (idP_lt (bP_in hG (show k < 2 * G.n by omega)).1) (idP_lt (eP_in hG (show k < 2 * G.n by omega)).1)
  simp only [cntP, rR]
  by_cases hF : inF G k
  ·rw [if_pos hF, if_neg (fun h => h.1 hF)]; omega
  ·rw [if_neg hF]
   by_cases hm : rR G k (idP (bP G k)) = rR G k (idP (eP G k))
   ·have := h2.1 hm
    rw [if_neg (fun h => h.2 hm)]; omega
   ·have := h2.2 hm
    rw [if_pos ⟨hF, hm⟩]; omega
theorem sides {x : Nat × Nat} (hx : InV G x) : InV G (rot3 x) ∧ ((outB (G.s x.1) x.2 = true ∧ x = bP G (G.X x.1 x.2) ∧ SameR G (eP G (G.X x.1 x.2)) (rot3 x)) ∨ (outB (G.s x.1) x.2 = false ∧ x = eP G (G.X x.1 x.2) ∧ SameR G (bP G (G.X x.1 x.2)) (rot3 x))) := by
 refine ⟨hG.inV hx.1 (Nat.mod_lt _ (by omega)), ?_⟩
 obtain ⟨c, q⟩ := x
 have ha := hx.2.2
 have hbe := at_be hG hx
 simp only at ha hbe ⊢
 obtain ⟨a, hae⟩ : ∃ a, a = G.X c q := ⟨_, rfl⟩
 rw [← hae] at ha hbe ⊢
 have hd := hG.dir _ ha
 rcases hbe with e | e
 ·have h1 : c = G.T a 0 := congrArg Prod.fst e
  have h2 : q = G.T a 1 := congrArg Prod.snd e
  refine .inl ⟨by rw [h1, h2]; exact hd.1, e, ⟨1, ?_⟩⟩
  simp only [orb]
  rw [nxt_rot, oth_e hG ha, ← e]
 ·have h1 : c = G.T a 2 := congrArg Prod.fst e
  have h2 : q = G.T a 3 := congrArg Prod.snd e
  refine .inr ⟨by rw [h1, h2]; exact hd.2, e, ⟨1, ?_⟩⟩
  simp only [orb]
  rw [nxt_rot, oth_b hG ha, ← e]
omit hG in
theorem corner4 {f : Nat → Nat} {q : Nat} (hq : q < 4) (h : ∀ q', q' < 4 → q' ≠ q → f q' = f ((q' + 3) % 4)) : f q = f ((q + 3) % 4) := by
 match q, hq with
 | 0, _ => have h1 := h 1 (by omega) (by omega); have h2 := h 2 (by omega) (by omega); have h3 := h 3 (by omega) (by omega); simp only [Nat.reduceAdd, Nat.reduceMod] at *; rw [h3, h2, h1]
 | 1, _ => have h1 := h 0 (by omega) (by omega); have h2 := h 2 (by omega) (by omega); have h3 := h 3 (by omega) (by omega); simp only [Nat.reduceAdd, Nat.reduceMod] at *; rw [h1, h3, h2]
 | 2, _ => have h1 := h 0 (by omega) (by omega); have h2 := h 1 (by omega) (by omega); have h3 := h 3 (by omega) (by omega); simp only [Nat.reduceAdd, Nat.reduceMod] at *; rw [h2, h1, h3]
 | 3, _ => have h1 := h 0 (by omega) (by omega); have h2 := h 1 (by omega) (by omega); have h3 := h 2 (by omega) (by omega); simp only [Nat.reduceAdd, Nat.reduceMod] at *; rw [h3, h2, h1]
theorem dual_conn {i j : Nat} (hi : i < 4 * G.n) (hj : j < 4 * G.n) (hc : Conn G (i / 4) (j / 4)) : rR G (2 * G.n) i = rR G (2 * G.n) j := by
 obtain ⟨r, hr⟩ : ∃ r, r = rR G (2 * G.n) := ⟨_, rfl⟩
 have hreg : ∀ x y, InV G x → InV G y → SameR G x y → r (idP x) = r (idP y) := fun x y hx hy hs => by
  rw [hr]
  refine rR_mono (k := 0) (Nat.zero_le _) ?_
  refine (rR0_iff hG (idP_lt hx) (idP_lt hy)).2 ?_
  unfold RegN
  rw [endOf_id hx.2.1, endOf_id hy.2.1]
  exact hs
 have hside : ∀ x, InV G x → (r (idP (bP G (G.X x.1 x.2))) = r (idP (eP G (G.X x.1 x.2))) ↔ r (idP x) = r (idP (rot3 x))) := fun x hx => by
  obtain ⟨h1, h2⟩ := sides hG hx
  rcases h2 with ⟨_, e, h3⟩ | ⟨_, e, h3⟩
  ·have := hreg _ _ (eP_in hG hx.2.2).1 h1 h3
   rw [← this, ← e]
  ·have := hreg _ _ (bP_in hG hx.2.2).1 h1 h3
   rw [← this, ← e]
   exact eq_comm
 have hall := forest hG (sat := fun a => r (idP (bP G a)) = r (idP (eP G a))) (c0 := G.n) (fun a ha hF => by rw [hr]; exact rR_be ha hF) (fun c q hc _ hq h => by
  have hv := hG.inV (x := (c, q)) hc hq
  rw [hside (c, q) hv]
  refine corner4 (f := fun q => r (idP (c, q))) hq fun q' hq' hne => ?_
  exact (hside (c, q') (hG.inV hc hq')).1 (h q' hq' hne))
 have hturn : ∀ c q, c < G.n → q < 4 → r (idP (c, q)) = r (idP (c, (q + 3) % 4)) := fun c q hc hq => by
  have hv := hG.inV (x := (c, q)) hc hq
  exact (hside (c, q) hv).1 (hall _ hv.2.2)
 have hcr : ∀ c q, c < G.n → q < 4 → r (idP (c, q)) = r (idP (c, 0)) := fun c q hc hq => by
  have t1 := hturn c 1 hc (by omega)
  have t2 := hturn c 2 hc (by omega)
  have t3 := hturn c 3 hc (by omega)
  simp only [Nat.reduceAdd, Nat.reduceMod] at t1 t2 t3
  match q, hq with
  | 0, _ => rfl
  | 1, _ => exact t1
  | 2, _ => rw [t2, t1]
  | 3, _ => rw [t3, t2, t1]
 have hcon : ∀ c d, c < G.n → Conn G c d → r (idP (c, 0)) = r (idP (d, 0)) := fun c d hc h => by
  induction h with
  | refl => rfl
  | @step b q hb hq ih =>
   have hbl := hb.lt hG hc
   have hv := hG.inV (x := (b, q)) hbl hq
   obtain ⟨o1, o2, o3⟩ := oth_spec hG hv
   rw [ih, ← hcr b q hbl hq, ← hcr (oth G (b, q)).1 (oth G (b, q)).2 o1.1 o1.2.1]
   have ha : G.X b q < 2 * G.n := hv.2.2
   have hs := hall _ ha
   rcases at_be hG hv with e | e
   ·simp only at e
    have eo := oth_b hG ha
    rw [← e] at eo hs
    rw [show ((oth G (b, q)).1, (oth G (b, q)).2) = oth G (b, q) from rfl, eo]; exact hs
   ·simp only at e
    have eo := oth_e hG ha
    rw [← e] at eo hs
    rw [show ((oth G (b, q)).1, (oth G (b, q)).2) = oth G (b, q) from rfl, eo]; exact hs.symm
 rw [← hr]
 have hI := endOf_inV hG hi
 have hJ := endOf_inV hG hj
 have := hcon (i / 4) (j / 4) (by omega) hc
 rw [← hcr (i / 4) (i % 4) (by omega) (by omega), ← hcr (j / 4) (j % 4) (by omega) (by omega)] at this
 have e1 : idP (i / 4, i % 4) = i := id_endOf i
 have e2 : idP (j / 4, j % 4) = j := id_endOf j
 rwa [e1, e2] at this
theorem dual_tree (hP : PlanG G) {a : Nat} (ha : a < 2 * G.n) (hF : ¬ inF G a) : rR G a (idP (bP G a)) ≠ rR G a (idP (eP G a)) := by
 have h1 := rK_cnt hG (2 * G.n) (Nat.le_refl _)
 have h2 := rR_cnt hG (2 * G.n) (Nat.le_refl _)
 have h3 := regs_total hG hP
 have h4 := cnt_not (inF G) (2 * G.n)
 have hK := rK_rep G (2 * G.n)
 have hR := rR_rep hG (2 * G.n)
 have h5 : cntR (rR G (2 * G.n)) (4 * G.n) ≤ cntR (rK G (2 * G.n)) G.n := by
  refine cnt_inj (fun j => rK G (2 * G.n) (j / 4)) (fun j hj _ => ⟨(rK_conn hG _ (Nat.le_refl _) (j / 4) (by omega)).1, hK.idem _⟩) fun i j hi hj ei ej e => ?_
  have := dual_conn hG hi hj ((rK_iff hG (by omega) (by omega)).1 e)
  rw [ei, ej] at this
  exact this
 exact cnt_full (p := fun a => ¬ inF G a) (q := fun a => rR G a (idP (bP G a)) ≠ rR G a (idP (eP G a))) (n := 2 * G.n) (by omega) ha hF
end
section
variable {G : Dg} (hG : GoodG G) {M : Type} [Gp M]
def labP (G : Dg) (x : Nat → M) (c q : Nat) : M := if outB (G.s c) q then x (G.X c q) else Gp.inv (x (G.X c q))
def RelP (G : Dg) (x : Nat → M) (c : Nat) : Prop := labP G x c 0 * labP G x c 1 * labP G x c 2 * labP G x c 3 = Gp.e
structure RegL (G : Dg) (x : Nat → M) (g : Nat × Nat → M) : Prop where
 reg : ∀ y z, InV G y → InV G z → SameR G y z → g y = g z
 arc : ∀ a, a < 2 * G.n → g (bP G a) = g (eP G a) * x a
include hG
theorem potential (hP : PlanG G) (x : Nat → M) : ∃ g : Nat × Nat → M, (∀ y z, InV G y → InV G z → SameR G y z → g y = g z) ∧ ∀ a, a < 2 * G.n → ¬ inF G a → g (bP G a) = g (eP G a) * x a := by
 have key : ∀ k, k ≤ 2 * G.n → ∃ g : Nat × Nat → M, (∀ y z, InV G y → InV G z → SameR G y z → g y = g z) ∧ ∀ a, a < k → ¬ inF G a → g (bP G a) = g (eP G a) * x a := by
  intro k
  induction k with
  | zero => intro _; exact ⟨fun _ => Gp.e, fun _ _ _ _ _ => rfl, fun a h => by omega⟩
  | succ k ih =>
   intro hk
   obtain ⟨g, g1, g2⟩ := ih (by omega)
   by_cases hF : inF G k
   ·refine ⟨g, g1, fun a ha hn => g2 a ?_ hn⟩
    rcases Nat.lt_or_ge a k with h | h
    ·exact h
    ·obtain rfl : a = k := by omega
     exact absurd hF hn
   ·have hne := dual_tree hG hP (show k < 2 * G.n by omega) hF
    refine ⟨fun y => if rR G k (idP y) = rR G k (idP (bP G k)) then (g (eP G k) * x k * Gp.inv (g (bP G k))) * g y else g y, fun y z hy hz hs => ?_, fun a ha hn => ?_⟩
    ·have h0 : rR G k (idP y) = rR G k (idP z) := by
      refine rR_mono (k := 0) (Nat.zero_le _) ?_
      refine (rR0_iff hG (idP_lt hy) (idP_lt hz)).2 ?_
      unfold RegN
      rw [endOf_id hy.2.1, endOf_id hz.2.1]
      exact hs
     simp only [h0, g1 y z hy hz hs]
    ·rcases Nat.lt_or_ge a k with h | h
     ·have hbe := rR_be (m := k) h hn
      simp only [hbe]
      split
      ·rw [g2 a h hn]; simp only [Gp.assoc]
      ·exact g2 a h hn
     ·obtain rfl : a = k := by omega
      simp only [if_true]
      rw [if_neg (fun e => hne e.symm), Gp.assoc, Gp.inv_mul, Gp.mul_e]
 exact key (2 * G.n) (Nat.le_refl _)
theorem sat_place {x : Nat → M} {g : Nat × Nat → M} (hg : ∀ y z, InV G y → InV G z → SameR G y z → g y = g z) {c q : Nat} (hc : c < G.n) (hq : q < 4) : g (bP G (G.X c q)) = g (eP G (G.X c q)) * x (G.X c q) ↔ g (c, q) = g (c, (q + 3) % 4) * labP G x c q := by
 have hv := hG.inV (x := (c, q)) hc hq
 obtain ⟨h1, h2⟩ := sides hG hv
 unfold labP
 rcases h2 with ⟨ho, e, h3⟩ | ⟨ho, e, h3⟩
 ·have := hg _ _ (eP_in hG hv.2.2).1 h1 h3
  simp only at this ho e
  rw [if_pos ho, ← e, this]; rfl
 ·have := hg _ _ (bP_in hG hv.2.2).1 h1 h3
  simp only at this ho e
  rw [if_neg (by rw [ho]; decide), ← e, this, Gp.eq_mul_inv]
  exact ⟨fun h => h.symm, fun h => h.symm⟩
omit hG in
theorem cyc4 {r y : Nat → M} (hy : y 0 * y 1 * y 2 * y 3 = Gp.e) {q : Nat} (hq : q < 4) (h : ∀ q', q' < 4 → q' ≠ q → r q' = r ((q' + 3) % 4) * y q') : r q = r ((q + 3) % 4) * y q := by
 match q, hq with
 | 0, _ =>
  have h1 := h 1 (by omega) (by omega); have h2 := h 2 (by omega) (by omega); have h3 := h 3 (by omega) (by omega)
  simp only [Nat.reduceAdd, Nat.reduceMod] at *
  have e : y 1 * y 2 * y 3 * y 0 = Gp.e := by
   refine Gp.cancelL (a := y 0) ?_
   rw [← Gp.assoc, ← Gp.assoc, ← Gp.assoc, hy, Gp.e_mul, Gp.mul_e]
  rw [h3, h2, h1, Gp.assoc, Gp.assoc, Gp.assoc, ← Gp.assoc (y 2), ← Gp.assoc (y 1), ← Gp.assoc (y 1), e, Gp.mul_e]
 | 1, _ =>
  have h1 := h 0 (by omega) (by omega); have h2 := h 2 (by omega) (by omega); have h3 := h 3 (by omega) (by omega)
  simp only [Nat.reduceAdd, Nat.reduceMod] at *
  have e : y 2 * y 3 * y 0 * y 1 = Gp.e := by
   refine Gp.cancelL (a := y 0 * y 1) ?_
   rw [← Gp.assoc, ← Gp.assoc, ← Gp.assoc, hy, Gp.e_mul, Gp.mul_e]
  rw [h1, h3, h2, Gp.assoc, Gp.assoc, Gp.assoc, ← Gp.assoc (y 3), ← Gp.assoc (y 2), ← Gp.assoc (y 2), e, Gp.mul_e]
 | 2, _ =>
  have h1 := h 0 (by omega) (by omega); have h2 := h 1 (by omega) (by omega); have h3 := h 3 (by omega) (by omega)
  simp only [Nat.reduceAdd, Nat.reduceMod] at *
  have e : y 3 * y 0 * y 1 * y 2 = Gp.e := by
   refine Gp.cancelR (a := y 3) ?_
   rw [Gp.assoc, Gp.assoc, Gp.assoc, ← Gp.assoc (y 1), ← Gp.assoc (y 0), ← Gp.assoc (y 0), hy, Gp.e_mul, Gp.mul_e]
  rw [h2, h1, h3, Gp.assoc, Gp.assoc, Gp.assoc, ← Gp.assoc (y 0), ← Gp.assoc (y 3), ← Gp.assoc (y 3), e, Gp.mul_e]
 | 3, _ =>
  have h1 := h 0 (by omega) (by omega); have h2 := h 1 (by omega) (by omega); have h3 := h 2 (by omega) (by omega)
  simp only [Nat.reduceAdd, Nat.reduceMod] at *
  rw [h3, h2, h1, Gp.assoc, Gp.assoc, Gp.assoc, ← Gp.assoc (y 1), ← Gp.assoc (y 0), ← Gp.assoc (y 0), hy, Gp.mul_e]
theorem planar (hP : PlanG G) {x : Nat → M} {c0 : Nat} (hr : ∀ c, c < G.n → c ≠ c0 → RelP G x c) : ∃ g : Nat × Nat → M, RegL G x g := by
 obtain ⟨g, g1, g2⟩ := potential hG hP x
 refine ⟨g, g1, ?_⟩
 refine forest hG (sat := fun a => g (bP G a) = g (eP G a) * x a) (c0 := c0) g2 fun c q hc hne hq h => ?_
 rw [sat_place hG g1 hc hq]
 exact cyc4 (r := fun q => g (c, q)) (y := labP G x c) (hr c hc hne) hq fun q' hq' hn => (sat_place hG g1 hc hq').1 (h q' hq' hn)
theorem RegL.rel {x : Nat → M} {g : Nat × Nat → M} (h : RegL G x g) {c : Nat} (hc : c < G.n) : RelP G x c := by
 have t : ∀ q, q < 4 → g (c, q) = g (c, (q + 3) % 4) * labP G x c q := fun q hq => (sat_place hG h.reg hc hq).1 (h.arc _ (hG.X c q hc hq))
 have t0 := t 0 (by omega)
 have t1 := t 1 (by omega)
 have t2 := t 2 (by omega)
 have t3 := t 3 (by omega)
 simp only [Nat.reduceAdd, Nat.reduceMod] at t0 t1 t2 t3
 rw [t2, t1, t0] at t3
 unfold RelP
 refine Gp.cancelL (a := g (c, 3)) ?_
 rw [Gp.mul_e, ← Gp.assoc, ← Gp.assoc, ← Gp.assoc]
 exact t3.symm
end
end Go.Proofs.Ytjlkndkedknocaa
namespace Go.Proofs.Ytjlkndkedknocaa
open Go Go.Ai
attribute [local instance] Classical.propDecidable
structure Der (G H : Dg) (π : Nat → Nat → Nat) : Prop where
 n : H.n = G.n
 L : H.L = G.L
 X : ∀ c q, c < G.n → q < 4 → H.X c q = G.X c (π c q)
 lt : ∀ c q, π c q < 4
 inj : ∀ c q r, q < 4 → r < 4 → π c q = π c r → q = r
section
variable {G H : Dg} {π : Nat → Nat → Nat} (h : Der G H π) (hG : GoodG G) (hH : GoodG H)
def piP (π : Nat → Nat → Nat) (x : Nat × Nat) : Nat × Nat := (x.1, π x.1 x.2)
include h hG hH
omit hH in
theorem Der.inv {x : Nat × Nat} (hx : InV H x) : InV G (piP π x) := hG.inV (by have := hx.1; rw [h.n] at this; exact this) (h.lt _ _)
omit hG hH in
theorem Der.onto {c q : Nat} (hc : c < G.n) (hq : q < 4) : ∃ p, p < 4 ∧ π c p = q := by
 obtain ⟨p, hp, he⟩ := Go.Proofs.Ytjlkndkedknocaa.onto 4 (π c) (fun i _ => h.lt c i) (fun i j hij hj e => by have := h.inj c i j (by omega) hj e; omega) q hq
 exact ⟨p, hp, he⟩
theorem Der.oth {x : Nat × Nat} (hx : InV H x) : piP π (oth H x) = oth G (piP π x) := by
 obtain ⟨o1, o2, o3⟩ := oth_spec hH hx
 refine (oth_is hG (h.inv hG hx) (h.inv hG o1) (fun e => oth_ne hH hx ?_) ?_).symm
 ·have e1 := congrArg Prod.fst e
  have e2 := congrArg Prod.snd e
  simp only [piP] at e1 e2
  rw [← e1] at e2
  exact Prod.ext e1.symm (h.inj _ _ _ o1.2.1 hx.2.1 e2.symm)
 ·show G.X x.1 (π x.1 x.2) = G.X (Go.Proofs.Ytjlkndkedknocaa.oth H x).1 (π (Go.Proofs.Ytjlkndkedknocaa.oth H x).1 (Go.Proofs.Ytjlkndkedknocaa.oth H x).2)
  have hn := h.n
  have hx1 := hx.1
  have ho1 := o1.1
  rw [← h.X _ _ (by omega) hx.2.1, ← h.X _ _ (by omega) o1.2.1, o3]
theorem Der.conn1 {a b : Nat} (ha : a < G.n) (k : Conn H a b) : Conn G a b := by
 induction k with
 | refl => exact .refl _
 | @step b q hb hq ih =>
  have hv := hH.inV (x := (b, q)) (hb.lt hH (by rw [h.n]; exact ha)) hq
  have e := h.oth hG hH hv
  have := ih.step (π b q) (h.lt _ _)
  have e1 := congrArg Prod.fst e
  simp only [piP] at e1
  rw [e1]
  exact this
theorem Der.conn2 {a b : Nat} (ha : a < G.n) (k : Conn G a b) : Conn H a b := by
 induction k with
 | refl => exact .refl _
 | @step b q hb hq ih =>
  have hbl := hb.lt hG ha
  obtain ⟨p, hp, he⟩ := h.onto hbl hq
  have hv := hH.inV (x := (b, p)) (by rw [h.n]; exact hbl) hp
  have e := h.oth hG hH hv
  have := ih.step p hp
  have e1 := congrArg Prod.fst e
  simp only [piP] at e1
  rw [he] at e1
  rw [← e1]
  exact this
theorem Der.conn {a b : Nat} (ha : a < G.n) : Conn H a b ↔ Conn G a b := ⟨h.conn1 hG hH ha, h.conn2 hG hH ha⟩
end
end Go.Proofs.Ytjlkndkedknocaa
namespace Go.Proofs.Ytjlkndkedknocaa
open Go Go.Ai
attribute [local instance] Classical.propDecidable
theorem endNx {G : Dg} (hG : GoodG G) {c p : Nat} (he : (c, p) = eP G (G.X c p)) : nx G (G.X c p) = G.X c ((p + 2) % 4) := by
 have h1 : c = G.T (G.X c p) 2 := congrArg Prod.fst he
 have h2 : p = G.T (G.X c p) 3 := congrArg Prod.snd he
 unfold nx
 rw [← h1, ← h2]
theorem oppC {G : Dg} (hG : GoodG G) {c q : Nat} (hc : c < G.n) (hq : q < 4) : SameC G (G.X c q) (G.X c ((q + 2) % 4)) := by
 have hv := hG.inV (x := (c, q)) hc hq
 have hv2 := hG.inV (x := (c, (q + 2) % 4)) hc (Nat.mod_lt _ (by omega))
 rcases at_be hG hv with e | e
 ·rcases at_be hG hv2 with e2 | e2
  ·have d1 := (hG.dir _ hv.2.2).1
   have d2 := (hG.dir _ hv2.2.2).1
   have f1 : c = G.T (G.X c q) 0 := congrArg Prod.fst e
   have f2 : q = G.T (G.X c q) 1 := congrArg Prod.snd e
   have g1 : c = G.T (G.X c ((q + 2) % 4)) 0 := congrArg Prod.fst e2
   have g2 : (q + 2) % 4 = G.T (G.X c ((q + 2) % 4)) 1 := congrArg Prod.snd e2
   simp only at d1 d2
   rw [← f1, ← f2] at d1
   rw [← g1, ← g2] at d2
   have := outB_flip (hG.sign c hc) hq
   rw [d1, d2] at this
   cases this
  ·have := endNx hG e2
   rw [show ((q + 2) % 4 + 2) % 4 = q by omega] at this
   exact (nx_perm hG).symm hv2.2.2 ⟨1, this⟩
 ·exact ⟨1, endNx hG e⟩
theorem Der.same {G H : Dg} {π : Nat → Nat → Nat} (h : Der G H π) (hG : GoodG G) (hH : GoodG H) (hop : ∀ c q, q < 4 → π c ((q + 2) % 4) = (π c q + 2) % 4) {a b : Nat} (ha : a < 2 * G.n) (k : SameC G a b) : SameC H a b := by
 obtain ⟨t, rfl⟩ := k
 induction t with
 | zero => exact ⟨0, rfl⟩
 | succ t ih =>
  refine ih.trans ?_
  obtain ⟨b, hb⟩ : ∃ b, b = itr (nx G) a t := ⟨_, rfl⟩
  have hbl : b < 2 * G.n := by rw [hb]; exact (nx_perm hG).itr_lt ha t
  show SameO (nx H) (itr (nx G) a t) (nx G (itr (nx G) a t))
  rw [← hb]
  obtain ⟨hv, hx⟩ := eP_in hG hbl
  obtain ⟨c, p, he⟩ : ∃ c p, eP G b = (c, p) := ⟨_, _, rfl⟩
  rw [he] at hv hx
  simp only at hx
  have hnx := endNx hG (c := c) (p := p) (by rw [hx]; exact he.symm)
  rw [hx] at hnx
  obtain ⟨q, hq, hpq⟩ := h.onto hv.1 hv.2.1
  have ho := oppC hH (c := c) (q := q) (by rw [h.n]; exact hv.1) hq
  rw [h.X c q hv.1 hq, h.X c _ hv.1 (Nat.mod_lt _ (by omega)), hop c q hq, hpq, hx, ← hnx] at ho
  exact ho
end Go.Proofs.Ytjlkndkedknocaa
namespace Go.Proofs.Ytjlkndkedknocaa
open Go Go.Ai
attribute [local instance] Classical.propDecidable
def tauT (b : Nat → Nat) (t : Nat) : Nat := 4 * (t / 4) + (t % 4 + b (t / 4)) % 4
def tauR (t : Nat) : Nat := 4 * (t / 4) + (3 - t % 4)
def beT (r f : Nat) : Nat := 2 * (f / 2) + (f + r) % 2
theorem outE_self {G : Dg} (hG : GoodG G) {t f : Nat} (ht : t < 4 * G.n) (hf : f < 4) : ¬ ((outE G t f).1 = t ∧ pm (outE G t f).2 f = f) := by
 rintro ⟨h1, h2⟩
 revert h1 h2
 by_cases k : 2 ≤ f
 ·unfold outE
  rw [if_pos k]
  split <;> (simp only; omega)
 ·have hq : (t % 4 + 1) % 4 < 4 := by omega
  have par : ∀ q, q % 2 ≠ f → f < 2 → pm (!decide (f = q % 2)) f ≠ f := fun q hne hf2 => by
   rw [decide_eq_false (by omega)]
   unfold pm
   rcases (show f = 0 ∨ f = 1 by omega) with rfl | rfl <;> simp
  unfold outE
  rw [if_neg k]
  split
  ·rename_i e
   simp only
   intro h1 h2
   obtain ⟨o, ho⟩ : ∃ o, o = oth G (t / 4, t % 4) := ⟨_, rfl⟩
   rw [← ho] at h1 h2
   have hv := (oth_spec hG (hG.inV (x := (t / 4, t % 4)) (by simp only; omega) (by simp only; omega))).1
   rw [← ho] at hv
   have := hv.2.1
   by_cases c : o.2 % 2 = f
   ·omega
   ·exact par _ c (by omega) h2
  ·rename_i e
   simp only
   intro h1 h2
   obtain ⟨o, ho⟩ : ∃ o, o = oth G (t / 4, (t % 4 + 1) % 4) := ⟨_, rfl⟩
   rw [← ho] at h1 h2
   have hv := (oth_spec hG (hG.inV (x := (t / 4, (t % 4 + 1) % 4)) (by simp only; omega) (by simp only; omega))).1
   rw [← ho] at hv
   have := hv.2.1
   by_cases c : o.2 % 2 = f
   ·omega
   ·exact par _ c (by omega) h2
end Go.Proofs.Ytjlkndkedknocaa
namespace Go.Proofs.Ytjlkndkedknocaa
open Go Go.Ai
attribute [local instance] Classical.propDecidable
def nbE (e : Nat → Nat → Nat × Bool) (t f : Nat) : Option Nat := some (e t f).1
structure GlU (N : Nat) (e : Nat → Nat → Nat × Bool) : Prop where
 lt : ∀ t f, t < N → f < 4 → (e t f).1 < N
 sym : ∀ t f, t < N → f < 4 → e (e t f).1 (pm (e t f).2 f) = (t, (e t f).2)
 self : ∀ t f, t < N → f < 4 → ¬ ((e t f).1 = t ∧ pm (e t f).2 f = f)
 conn : ∀ t, t < N → VC (nbE e) 0 t
theorem in_cross (G : Dg) (c p : Nat) (hp : p < 4) (k : Nat) : VC (nbE (outE G)) (4 * c + p) (4 * c + (p + k) % 4) := by
 induction k with
 | zero =>
  rw [Nat.add_zero, Nat.mod_eq_of_lt hp]
  exact .refl _
 | succ k ih =>
  refine ih.step (3 - ((p + k) % 4 + 1) % 4 % 2) (by omega) ?_
  unfold nbE outE
  rw [show (4 * c + (p + k) % 4) % 4 = (p + k) % 4 by omega, show (4 * c + (p + k) % 4) / 4 = c by omega, if_pos (by omega), if_pos rfl]
  simp only
  congr 1
  omega
theorem out_conn {G : Dg} (hG : GoodG G) {c : Nat} (h0 : 0 < G.n) (hc : Conn G 0 c) : VC (nbE (outE G)) 0 (4 * c) := by
 induction hc with
 | refl => exact .refl _
 | @step b q hb hq ih =>
  have h1 := in_cross G b 0 (by omega) q
  rw [Nat.zero_add, Nat.mod_eq_of_lt hq] at h1
  have h2 := outE_own G (e := (b, q)) hq rfl
  have h3 : VC (nbE (outE G)) (4 * b + q) (4 * (oth G (b, q)).1 + ((oth G (b, q)).2 + 3) % 4) := (VC.refl _).step (q % 2) (by omega) (by unfold nbE; rw [h2])
  have h4 := in_cross G (oth G (b, q)).1 (((oth G (b, q)).2 + 3) % 4) (by omega) (4 - ((oth G (b, q)).2 + 3) % 4)
  rw [show (((oth G (b, q)).2 + 3) % 4 + (4 - ((oth G (b, q)).2 + 3) % 4)) % 4 = 0 by omega] at h4
  exact ((ih.trans h1).trans h3).trans h4
theorem out_glu {G : Dg} (hG : GoodG G) (hP : PlanG G) (hM : MixG G) : GlU (4 * G.n) (outE G) := by
 have hn : 0 < G.n := by have := hM.1; omega
 refine ⟨fun t f ht hf => (outE_sym hG ht hf).1, fun t f ht hf => (outE_sym hG ht hf).2, fun t f ht hf => outE_self hG ht hf, fun t ht => ?_⟩
 have h1 := out_conn hG hn ((mix_conn hG hP hn).1 hM.2.2.1 (t / 4) (by omega))
 have h2 := in_cross G (t / 4) 0 (by omega) (t % 4)
 rw [show 4 * (t / 4) + (0 + t % 4) % 4 = t by omega] at h2
 exact h1.trans h2
theorem glu_of {n : Nat} {x : Nat → Nat → Int} {s : Nat → Int} {L : Int} (h : askD n x s L = 0) : GlU (4 * n) (outE (dgOf n x s L)) := by
 obtain ⟨h1, h2⟩ := ask_zero h
 obtain ⟨h3, h4⟩ := kind_zero h1
 exact out_glu (good_of h3) h4 h2
end Go.Proofs.Ytjlkndkedknocaa
namespace Go.Proofs.Ytjlkndkedknocaa
open Go Go.Ai
attribute [local instance] Classical.propDecidable
theorem nx_at {G : Dg} (hG : GoodG G) {i q : Nat} (hi : i < G.n) (hq : q < 4) (ho : outB (G.s i) q = false) : nx G (G.X i q) = G.X i ((q + 2) % 4) := by
 have ha := hG.X i q hi hq
 obtain ⟨d1, d2⟩ := hG.dir _ ha
 rcases hG.cover i q hi hq with ⟨c1, c2⟩ | ⟨c1, c2⟩
 ·rw [← c1, ← c2, ho] at d1; cases d1
 ·unfold nx
  rw [← c1, ← c2]
theorem strand {G : Dg} (hG : GoodG G) {xs : List Int} {k : Nat} (hO : OrbI (2 * G.n) (nx G) (2 * G.n) k xs) {i q : Nat} (hi : i < G.n) (hq : q < 4) : nth xs (G.X i ((q + 2) % 4)) = nth xs (G.X i q) := by
 have hq2 : (q + 2) % 4 < 4 := Nat.mod_lt _ (by omega)
 have h1 := hG.X i q hi hq
 have h2 := hG.X i ((q + 2) % 4) hi hq2
 have hfl := outB_flip (hG.sign i hi) hq
 cases hb : outB (G.s i) q with
 | false => exact ((hO.rel _ _ h1 h2 (hO.done _ h1)).2 ⟨1, nx_at hG hi hq hb⟩).symm
 | true =>
  rw [hb] at hfl
  have := nx_at hG hi hq2 hfl
  rw [show ((q + 2) % 4 + 2) % 4 = q by omega] at this
  exact (hO.rel _ _ h2 h1 (hO.done _ h2)).2 ⟨1, this⟩
def cval (G : Dg) (xs : List Int) (c v : Nat) : Int := match v with
 | 0 => nth xs (G.X c 1)
 | 1 => nth xs (G.X c 0)
 | i => 1 - i
theorem cuspV_eq (G : Dg) (xs : List Int) (u : Nat) : cuspV G xs u = cval G xs (u / 16) (u % 4) := rfl
theorem cval_place {G : Dg} (hG : GoodG G) {xs : List Int} {k : Nat} (hO : OrbI (2 * G.n) (nx G) (2 * G.n) k xs) {c q : Nat} (hc : c < G.n) (hq : q < 4) : cval G xs c (1 - q % 2) = nth xs (G.X c q) := by
 match q, hq with
 | 0, _ => rfl
 | 1, _ => rfl
 | 2, _ => exact (strand hG hO hc (q := 0) (by omega)).symm
 | 3, _ => exact (strand hG hO hc (q := 1) (by omega)).symm
theorem cval_big (G : Dg) (xs : List Int) (c d : Nat) {v : Nat} (h : 2 ≤ v) : cval G xs c v = cval G xs d v := by
 match v, h with
 | v + 2, _ => rfl
theorem cusp_step {G : Dg} (hG : GoodG G) {xs : List Int} {k : Nat} (hO : OrbI (2 * G.n) (nx G) (2 * G.n) k xs) {u f w : Nat} (hu : u < 16 * G.n) (hf : f < 4) (h : nbF (outF G) u f = some w) : cuspV G xs w = cuspV G xs u := by
 unfold nbF at h
 split at h
 ·cases h
 ·rename_i hne
  rw [outF_eq hG (by omega) hf] at h
  obtain rfl := Option.some.inj h
  simp only [fcT, fcP]
  have hp := pm_lt (outE G (u / 4) f).2 (i := u % 4) (Nat.mod_lt _ (by omega))
  rw [cuspV_eq, cuspV_eq, show ((outE G (u / 4) f).1 * 4 + pm (outE G (u / 4) f).2 (u % 4)) / 16 = (outE G (u / 4) f).1 / 4 by omega, show ((outE G (u / 4) f).1 * 4 + pm (outE G (u / 4) f).2 (u % 4)) % 4 = pm (outE G (u / 4) f).2 (u % 4) by omega]
  by_cases h2 : 2 ≤ f
  ·have hc : (outE G (u / 4) f).1 / 4 = u / 16 ∧ (outE G (u / 4) f).2 = false := by
    unfold outE
    rw [if_pos h2]
    split
    ·exact ⟨by simp only; omega, rfl⟩
    ·exact ⟨by simp only; omega, rfl⟩
   rw [hc.1, hc.2]; rfl
  ·have hf2 : f < 2 := by omega
   obtain ⟨e, he⟩ : ∃ e, e = plF (u / 4) f := ⟨_, rfl⟩
   have he1 : e.1 < G.n := by rw [he]; show u / 4 / 4 < G.n; omega
   have hec : e.1 = u / 16 := by rw [he]; show u / 4 / 4 = u / 16; omega
   have he2 : e.2 < 4 := by
    rw [he]; unfold plF
    simp only
    split <;> omega
   obtain ⟨o, ho⟩ : ∃ o, o = oth G e := ⟨_, rfl⟩
   have hos := oth_spec hG (hG.inV (x := e) he1 he2)
   rw [← ho] at hos
   have ho1 := hos.1.1
   have ho2 := hos.1.2.1
   have hval : (outE G (u / 4) f).1 / 4 = o.1 ∧ (outE G (u / 4) f).2 = !decide (e.2 % 2 = o.2 % 2) ∧ f = e.2 % 2 := by
    rcases plF_eq hf2 he.symm with ⟨h3, h4⟩ | ⟨h3, h4⟩
    ·rw [h3, h4, outE_own G he2 ho.symm]
     exact ⟨by simp only; omega, rfl, rfl⟩
    ·rw [h3, h4, outE_next G he2 ho.symm]
     exact ⟨by simp only; omega, rfl, rfl⟩
   obtain ⟨v1, v2, v3⟩ := hval
   rw [v1, v2, ← hec]
   by_cases hv : 2 ≤ u % 4
   ·have : pm (!decide (e.2 % 2 = o.2 % 2)) (u % 4) = u % 4 := by
     unfold pm
     split
     ·rw [if_neg (by omega), if_neg (by omega)]
     ·rfl
    rw [this]
    exact cval_big _ _ _ _ hv
   ·have hv1 : u % 4 = 1 - e.2 % 2 := by omega
    have hpv : pm (!decide (e.2 % 2 = o.2 % 2)) (u % 4) = 1 - o.2 % 2 := by
     by_cases c : e.2 % 2 = o.2 % 2
     ·rw [decide_eq_true c]
      show u % 4 = _
      omega
     ·rw [decide_eq_false c]
      unfold pm
      simp only [Bool.not_false, if_true]
      by_cases c0 : u % 4 = 0
      ·rw [if_pos c0]; omega
      ·rw [if_neg c0, if_pos (by omega)]; omega
    rw [hpv, hv1, cval_place hG hO ho1 ho2, cval_place hG hO he1 he2, hos.2.2]
theorem cusp_same {G : Dg} (hG : GoodG G) {xs : List Int} {k : Nat} (hO : OrbI (2 * G.n) (nx G) (2 * G.n) k xs) {u w : Nat} (hu : u < 16 * G.n) (h : VC (nbF (outF G)) u w) : cuspV G xs w = cuspV G xs u := by
 induction h with
 | refl => rfl
 | step f hab hf hw ih => rw [cusp_step hG hO (VC_lt hG hu hab) hf hw, ih]
theorem firstsV_numb {N k : Nat} {nb : Nat → Nat → Option Nat} {cls : Nat → Nat} (h : Numb N (VC nb) cls k) : ∀ v, v ≤ N → (∀ x, x < (firstsV nb v).length ↔ ∃ b, b < v ∧ cls b = x) ∧ ∀ j, j < (firstsV nb v).length → ∃ u, (firstsV nb v)[j]? = some u ∧ u < v ∧ cls u = j := by
 intro v
 induction v with
 | zero => intro _; exact ⟨fun x => by simp [firstsV], fun j hj => by simp [firstsV] at hj⟩
 | succ v ih =>
  intro hv
  obtain ⟨i1, i2⟩ := ih (by omega)
  by_cases hx : ∃ w, w < v ∧ VC nb w v
  ·rw [firstsV_old hx]
   obtain ⟨w, w1, w2⟩ := hx
   have hcw : cls w = cls v := (h.rel w v (by omega) (by omega)).2 w2
   refine ⟨fun x => ?_, fun j hj => ?_⟩
   ·rw [i1]
    constructor
    ·rintro ⟨b, h1, h2⟩; exact ⟨b, by omega, h2⟩
    ·rintro ⟨b, h1, h2⟩
     by_cases e : b = v
     ·subst e; exact ⟨w, w1, by omega⟩
     ·exact ⟨b, by omega, h2⟩
   ·obtain ⟨u, u1, u2, u3⟩ := i2 j hj
    exact ⟨u, u1, by omega, u3⟩
  ·rw [firstsV_new hx]
   have hb : ∀ b, b < v → ¬ VC nb v b := fun b hb hc => by
    have h1 := (h.rel v b (by omega) (by omega)).2 hc
    exact hx ⟨b, hb, (h.rel b v (by omega) (by omega)).1 h1.symm⟩
   have hbf := h.before (a := v) (by omega) hb
   have hcl : cls v = (firstsV nb v).length := by
    have e : ∀ x, x < cls v ↔ x < (firstsV nb v).length := fun x => by rw [hbf x, i1 x]
    have h1 := e (firstsV nb v).length
    have h2 := e (cls v)
    omega
   rw [List.length_append, List.length_singleton]
   refine ⟨fun x => ?_, fun j hj => ?_⟩
   ·constructor
    ·intro hx'
     by_cases e : x = (firstsV nb v).length
     ·exact ⟨v, by omega, by omega⟩
     ·obtain ⟨b, h1, h2⟩ := (i1 x).1 (by omega)
      exact ⟨b, by omega, h2⟩
    ·rintro ⟨b, h1, h2⟩
     by_cases e : b = v
     ·subst e; omega
     ·have := (i1 x).2 ⟨b, by omega, h2⟩; omega
   ·by_cases e : j = (firstsV nb v).length
    ·exact ⟨v, by rw [List.getElem?_append_right (by omega), e, Nat.sub_self]; rfl, by omega, by omega⟩
    ·obtain ⟨u, u1, u2, u3⟩ := i2 j (by omega)
     exact ⟨u, by rw [List.getElem?_append_left (by omega)]; exact u1, by omega, u3⟩
end Go.Proofs.Ytjlkndkedknocaa
