/- Texts that were built one by one: Wd3, Wd4, Wo3, Wo4, Wo5, Wo6, Wl1, Wr12. -/
import Derived.Test.YtjlkndkedknocaaMh
import Derived.Test.YtjlkndkedknocaaMg
import Derived.Test.YtjlkndkedknocaaMf
import Derived.Test.YtjlkndkedknocaaMe
set_option linter.unusedSimpArgs false
set_option linter.unusedVariables false
namespace Go.Proofs.Ytjlkndkedknocaa
open Go Go.Ai
attribute [local instance] Classical.propDecidable
theorem lastW_lt {w : List Int} {gens : Nat} (h : LetOk gens w) : lastW w < gens + 1 := by
 have key : ∀ i, i ≤ w.length → lastW (w.take i) ≤ gens := by
  intro i
  induction i with
  | zero => intro _; simp [lastW]
  | succ i ih =>
   intro hi
   have h1 := ih (by omega)
   have h2 := h i (by omega)
   rw [lastW_take (by omega)]
   omega
 have := key w.length (Nat.le_refl _)
 rw [List.take_length] at this
 omega
theorem RdI.nil {hb h : List O} {lo Rb gens : Nat} (h1 : h[Rb]? = some (.cells (List.replicate (gens + 1) (.slice none 0 0)) 48 (some 0))) (h2 : Rb < lo) (h3 : lo ≤ h.length) : RdI hb h lo Rb gens [] (List.replicate (gens + 1) (.slice none 0 0)) := by
 refine ⟨h1, by simp, h2, h3, fun j hj => ⟨.slice none 0 0, by rw [List.getElem?_replicate, if_pos hj], [], OwnS.nil _ _ _ _, fun q hq => by simp [readyL] at hq⟩, fun j j' b n c n' c' _ e _ => ?_⟩
 rw [List.getElem?_replicate] at e
 split at e
 ·cases e
 ·cases e
variable {E : Env} (hE : OE E)
include hE
theorem assign1_ (hKp : SumsKept E) {hB hK : List O} {k pO pN pG n gens : Nat} {vr : Value} {frL : Fr} {rels : List (List Int)} (hn : 1 ≤ n ∧ n ≤ 6) (hgens : gens ≤ 600) (hrels : rels.length ≤ 100000)
  (hlet : ∀ r ∈ rels, LetOk gens r) (hsB : Sub hB hK) (hBl : hB.length ≤ pO) (hM : Mat hB vr rels)
  (hk : hK[k]? = some (.loop false 43 frL [39] (lcA 57 0) (lcB 57 0))) (g9 : get frL 9 = .pointer (some ⟨pO, 0, none⟩))
  (hO : hK[pO]? = some (.cells [.int .i64 0] 3 (some 0))) (hN : hK[pN]? = some (.cells [.int .i64 n] 3 (some 0))) (hG : hK[pG]? = some (.cells [.int .i64 gens, vr] 81 (some 0)))
  (ho : pO < pN ∧ pO < pG ∧ pO < k) (hcnt : (permL n).length ^ gens ≤ 10000000000) :
  DC E 188 [tok k, .pointer (some ⟨pN, 0, none⟩), .pointer (some ⟨pG, 0, none⟩)] ⟨hK, hK.length⟩ fun o st' => (∃ v, o = .ret v) ∧ pO ≤ st'.fl ∧ (∀ (b : Nat) (o : O), hK[b]? = some o → b ≠ pO → st'.h[b]? = some o) ∧ AtB st'.h pO (.cells [.int .i64 (cntV n (permL n) rels gens [])] 3 (some 0)) := by
 refine hE.fnC (body := rb188) rfl ?_
 unfold rb188
 have lO := (List.getElem?_eq_some_iff.1 hO).1
 have lk := (List.getElem?_eq_some_iff.1 hk).1
 have lN := (List.getElem?_eq_some_iff.1 hN).1
 have lG := (List.getElem?_eq_some_iff.1 hG).1
 obtain ⟨h1, hh1⟩ : ∃ H, H = hK ++ [O.cells [tok k] 219 (some 0)] := ⟨_, rfl⟩
 have l1 : h1.length = hK.length + 1 := by rw [hh1]; simp
 have hN1 : h1[pN]? = some (.cells [.int .i64 n] 3 (some 0)) := by rw [hh1]; exact app_of hN _
 have htk : (tok k).cells = #[tok k] := rfl
 have htk1 : one1 (tok k) = true := rfl
 simp [htk, ← hh1, rd_def, hN1]
 refine (permutations_ hE hn).imp ?_
 rintro o ⟨h2, f2⟩ ⟨v, rfl, s2, hf2, hP⟩
 simp only at s2 hf2 hP
 have hjo : joined ⟨h1, hK.length⟩ ⟨h2, f2⟩ = ⟨h2, hK.length⟩ := joined_fl hf2
 obtain ⟨aa, rfl, hrows⟩ := hP.look
 have s12 : Sub hK h2 := fun b o hb => s2 _ _ (by rw [hh1]; exact app_of hb _)
 have l2 : h1.length ≤ h2.length := by
  have h0 : h1[hK.length]? = some (O.cells [tok k] 219 (some 0)) := by rw [hh1, app_at0]; rfl
  have := (List.getElem?_eq_some_iff.1 (s2 _ _ h0)).1
  omega
 have hG2 : ∀ l, (h2 ++ l)[pG]? = some (.cells [.int .i64 gens, vr] 81 (some 0)) := fun l => app_of (s12 _ _ hG) l
 have hwg : IntKind.i64.wrap ((gens : Int) + 1) = (gens : Int) + 1 := by rw [w64_id] <;> omega
 have e1 : ((gens : Int) + 1) * 24 ≤ 140737488355328 := by omega
 have e2 : (gens : Int) + 1 < 4611686018427387904 := by omega
 have e3 : (0 : Int) ≤ (gens : Int) + 1 := by omega
 have e4 : ((gens : Int) + 1).toNat = gens + 1 := by omega
 have hrep : rep (gens + 1) [Value.slice none 0 0] = List.replicate (gens + 1) (.slice none 0 0) := by simp [rep]
 obtain ⟨va, vb, vo, vc, vs, hvr, hva, hvs⟩ := hM.at
 subst hvr
 simp [hjo, bit, wrN_at0, set_at0, rd_def, hG2, hwg, e1, e2, e3, e4, hrep, wrN_at, set_at, List.append_assoc]
 obtain ⟨hQ, hhQ⟩ : ∃ H, H = h2 ++ [O.cells [.slice aa (permL n).length (permL n).length] 48 (some 0), O.cells (List.replicate (gens + 1) (.slice none 0 0)) 48 (some 0), O.cells [.slice (some ⟨h2.length + 1, 0, none⟩) (gens + 1) (gens + 1)] 129 (some 0)] := ⟨_, rfl⟩
 rw [← hhQ]
 have lQ : hQ.length = h2.length + 3 := by rw [hhQ]; simp
 have q0 : hQ[h2.length]? = some (O.cells [.slice aa (permL n).length (permL n).length] 48 (some 0)) := by rw [hhQ, app_at0]; rfl
 have q1 : hQ[h2.length + 1]? = some (O.cells (List.replicate (gens + 1) (.slice none 0 0)) 48 (some 0)) := by rw [hhQ, app_at]; rfl
 have q2 : hQ[h2.length + 2]? = some (O.cells [.slice (some ⟨h2.length + 1, 0, none⟩) (gens + 1) (gens + 1)] 129 (some 0)) := by rw [hhQ, app_at]; rfl
 have s2Q : Sub h2 hQ := by rw [hhQ]; exact (Sub.refl _).app _
 have sBQ : Sub hB hQ := fun b o hb => s2Q _ _ (s12 _ _ (hsB _ _ hb))
 have hlen : rels.length < 2 ^ 62 := by omega
 obtain ⟨Rb, hRb⟩ : ∃ Rb, Rb = h2.length + 1 := ⟨_, rfl⟩
 obtain ⟨pA, hpA⟩ : ∃ pA, pA = h2.length := ⟨_, rfl⟩
 obtain ⟨pR, hpR⟩ : ∃ pR, pR = h2.length + 2 := ⟨_, rfl⟩
 have hmn : min hK.length h2.length = hK.length := by omega
 rw [hmn, ← hRb, ← hpR, ← hpA]
 rw [← hRb] at q1 q2
 rw [← hpR] at q2
 rw [← hpA] at q0
 refine DW_loop (fun kk fr st => ∃ (i : Nat) (h : List O) (rv : List Value), i + kk = rels.length ∧ st = ⟨h, hK.length⟩ ∧ RdI hB h hQ.length Rb gens (rels.take i) rv ∧ (∀ (b : Nat) (o : O), b ≠ Rb → hQ[b]? = some o → h[b]? = some o) ∧
  get fr 0 = tok k ∧ get fr 1 = .pointer (some ⟨pN, 0, none⟩) ∧ get fr 2 = .pointer (some ⟨pG, 0, none⟩) ∧ get fr 3 = .pointer (some ⟨hK.length, 0, none⟩) ∧ get fr 4 = .pointer (some ⟨pA, 0, none⟩) ∧ get fr 5 = .pointer (some ⟨pR, 0, none⟩) ∧ get fr 21 = .slice va rels.length vc ∧ get fr 22 = .int .i64 rels.length ∧ get fr 23 = .int .i64 i) ?_ (k := rels.length) ?_
 ·rintro kk fr st ⟨i, h, rv, hik, rfl, hRd, hkeep, g0, g1, g2, g3, g4, g5, g21, g22, g23⟩
  have sBh : Sub hB h := fun b o hb => by
   have := (List.getElem?_eq_some_iff.1 hb).1
   exact hkeep _ _ (by omega) (sBQ _ _ hb)
  by_cases hi : i < rels.length
  ·have hwi : IntKind.i64.wrap ((i : Int) + 1) = (i : Int) + 1 := by rw [w64_id] <;> omega
   obtain rfl := hva (by omega)
   obtain ⟨r1, r2⟩ := hvs i hi
   obtain ⟨wa, wb, wo, wc, hwv, hwa, hwr⟩ := r2.at
   have hwl : (nthR rels i).length < 2 ^ 62 := by obtain ⟨_, _, _, _, _, _, _, _, h5⟩ := r2; exact h5
   have r1' := Ai.Sub.rdO sBh r1
   have hLet := hlet _ (nthR_mem hi)
   obtain ⟨w, hw⟩ : ∃ w, w = nthR rels i := ⟨_, rfl⟩
   rw [← hw] at hwv hwa hwr hwl hLet r2
   simp [g0, g1, g2, g3, g4, g5, g21, g22, g23, hi, rd_def, r1', hwv]
   refine DW_loop (fun kk' fr st => ∃ (j : Nat), j + kk' = w.length ∧ st = ⟨h, hK.length⟩ ∧
    get fr 0 = tok k ∧ get fr 1 = .pointer (some ⟨pN, 0, none⟩) ∧ get fr 2 = .pointer (some ⟨pG, 0, none⟩) ∧ get fr 3 = .pointer (some ⟨hK.length, 0, none⟩) ∧ get fr 4 = .pointer (some ⟨pA, 0, none⟩) ∧ get fr 5 = .pointer (some ⟨pR, 0, none⟩) ∧ get fr 21 = .slice (some ⟨vb, vo, none⟩) rels.length vc ∧ get fr 22 = .int .i64 rels.length ∧ get fr 23 = .int .i64 i ∧
    get fr 7 = .slice wa w.length wc ∧ get fr 8 = .int .i64 (lastW (w.take j)) ∧ get fr 27 = .slice wa w.length wc ∧ get fr 28 = .int .i64 w.length ∧ get fr 29 = .int .i64 j) ?_ (k := w.length) ?_
   ·clear g0 g1 g2 g3 g4 g5 g21 g22 g23
    rintro kk' fr st ⟨j, hjk, rfl, g0, g1, g2, g3, g4, g5, g21, g22, g23, g7, g8, g27, g28, g29⟩
    by_cases hj : j < w.length
    ·have hwj : IntKind.i64.wrap ((j : Int) + 1) = (j : Int) + 1 := by rw [w64_id] <;> omega
     obtain rfl := hwa (by omega)
     have hlt := hLet j hj
     have hr' := Ai.Sub.rdO sBh (hwr j hj)
     have hwn : IntKind.i64.wrap (-nth w j) = -nth w j := by rw [w64_id] <;> omega
     have hmx : maxminV true [Value.int .i64 (lastW (w.take j)), .int .i64 (nth w j), .int .i64 (-nth w j)] = some (.int .i64 (lastW (w.take (j + 1)))) := by
      rw [lastW_take hj]
      simp only [maxminV, maxmin2, if_true]
      congr 2
      split <;> split <;> omega
     simp [g0, g1, g2, g3, g4, g5, g21, g22, g23, g7, g8, g27, g28, g29, hj, rd_def, hr', hwn, hmx, hwj]
     exact ⟨kk' - 1, by omega, j + 1, by omega, rfl, by omega⟩
    ·have hjw : j = w.length := by omega
     subst hjw
     rw [List.take_length] at g8
     have hlw := lastW_lt hLet
     have q2h := hkeep _ _ (by omega) q2
     have r2v := r2
     rw [hwv] at r2v
     obtain ⟨v, a1, a2, b', n', H4, f4, a3, a4, a5, a6, a7, a8⟩ := RdI.add (fl := hK.length) hRd r2v (by rfl) hlw (by rw [List.length_take]; omega)
     have hRbh := hRd.at_
     have hle : (lastW w : Int) < (gens : Int) + 1 := by omega
     simp [g0, g1, g2, g3, g4, g5, g21, g22, g23, g7, g8, g27, g28, g29, rd_def, q2h, hlw, hle, hRbh, a1, a3]
     have hbv : ∀ x ∈ blk v, ¬ x = Rb ∧ ¬ x = pR := fun x hx => by
      rcases a2 with rfl | ⟨b, n1, rfl, hb1⟩
      ·simp [blk] at hx
      ·simp [blk] at hx
       omega
     refine ⟨⟨fun _ x hx => (hbv x hx).1, fun _ x hx => (hbv x hx).2, fun x hx => (hbv x hx).2⟩, ?_⟩
     have hRb4 := a6 Rb _ (by omega) hRbh
     obtain rfl : f4 = hK.length := by omega
     have hmR : min hK.length Rb = hK.length := by omega
     have hrvl := hRd.len
     have hlwr : lastW w + 1 ≤ rv.length := by omega
     have hlw' : lastW w ≤ gens := by omega
     simp [wrN_def, hRb4, hlw', hrvl, hmR, g0, g1, g2, g3, g4, g5, g21, g22, g23, hwi]
     have htake : rels.take (i + 1) = rels.take i ++ [w] := by rw [List.take_add_one, List.getElem?_eq_getElem hi, hw]; simp [nthR, hi]
     refine ⟨⟨fun h => absurd h (by decide), by decide, fun h => absurd h (by decide)⟩, kk - 1, by omega, i + 1, by omega, ⟨_, by rw [htake]; exact a8⟩, fun b o hb1 hb2 => set_ne (a6 b o ?_ (hkeep b o hb1 hb2)) hb1, by omega⟩
     exact (List.getElem?_eq_some_iff.1 hb2).1
   ·exact ⟨0, by omega, rfl, by simp [lastW, g0, g1, g2, g3, g4, g5, g21, g22, g23]⟩
  ·have hil : i = rels.length := by omega
   subst hil
   rw [List.take_length] at hRd
   have q0h := hkeep _ _ (by omega) q0
   have q2h := hkeep _ _ (by omega) q2
   have hGh := hkeep _ _ (by omega) (s2Q _ _ (s12 _ _ hG))
   have hNh := hkeep _ _ (by omega) (s2Q _ _ (s12 _ _ hN))
   have hOh := hkeep _ _ (by omega) (s2Q _ _ (s12 _ _ hO))
   have hkh := hkeep _ _ (by omega) (s2Q _ _ (s12 _ _ hk))
   have hYh := hkeep hK.length _ (by omega) (s2Q _ _ (s2 _ _ (show h1[hK.length]? = some (O.cells [tok k] 219 (some 0)) by rw [hh1, app_at0]; rfl)))
   have f1 : (gens : Int) * 24 ≤ 140737488355328 := by omega
   have f3 : (gens : Int) < 4611686018427387904 := by omega
   have hrep2 : rep gens [Value.slice none 0 0] = List.replicate gens (.slice none 0 0) := by simp [rep]
   have hGa : ∀ l, (h ++ l)[pG]? = _ := fun l => app_of hGh l
   have lh := hRd.lo_
   obtain ⟨vV, hvV⟩ : ∃ vV, vV = visV2 (h.length + 2) pG hK.length pA (h.length + 3) pR pN (h.length + 4) := ⟨_, rfl⟩
   have hvV' := hvV
   unfold visV2 at hvV
   have hb1 : one1 vV = true := by rw [hvV]; rfl
   have hb2 : vV.cells = #[vV] := by rw [hvV]; rfl
   simp [g0, g1, g2, g3, g4, g5, g21, g22, g23, rd_def, hGh, hGa, f1, f3, hrep2, wrN_at0, wrN_at, set_at, set_at0, List.append_assoc, ← hvV, hb1, hb2]
   refine ⟨⟨fun _ => by omega, fun _ => by omega⟩, ⟨fun _ => by omega, fun _ => by omega⟩, ?_⟩
   obtain ⟨hV, hhV⟩ : ∃ H, H = h ++ [O.cells (List.replicate gens (.slice none 0 0)) 34 (some 0), O.cells (List.replicate gens (.slice none 0 0)) 34 (some 0), O.cells [.slice (some ⟨h.length, 0, none⟩) 0 gens] 48 (some 0), O.cells [.slice (some ⟨h.length + 1, 0, none⟩) 0 gens] 48 (some 0), O.cells [vV] 25 (some 0)] := ⟨_, rfl⟩
   have lV : hV.length = h.length + 5 := by rw [hhV]; simp
   have hVa : ∀ (b : Nat) (o : O), h[b]? = some o → hV[b]? = some o := fun b o hb => by rw [hhV]; exact app_of hb _
   have v0 : hV[h.length]? = some (O.cells (List.replicate gens (.slice none 0 0)) 34 (some 0)) := by rw [hhV, app_at0]; rfl
   have v1 : hV[h.length + 1]? = some (O.cells (List.replicate gens (.slice none 0 0)) 34 (some 0)) := by rw [hhV, app_at]; rfl
   have v2 : hV[h.length + 2]? = some (O.cells [.slice (some ⟨h.length, 0, none⟩) 0 gens] 48 (some 0)) := by rw [hhV, app_at]; rfl
   have v3 : hV[h.length + 3]? = some (O.cells [.slice (some ⟨h.length + 1, 0, none⟩) 0 gens] 48 (some 0)) := by rw [hhV, app_at]; rfl
   have v4 : hV[h.length + 4]? = some (O.cells [vV] 25 (some 0)) := by rw [hhV, app_at]; rfl
   rw [← hhV]
   have hmn2 : min hK.length (h.length + 2) = hK.length := by omega
   rw [hmn2]
   have htgt : target vV [] = some (189, [.pointer (some ⟨h.length + 2, 0, none⟩), .pointer (some ⟨pG, 0, none⟩), .pointer (some ⟨hK.length, 0, none⟩), .pointer (some ⟨pA, 0, none⟩), .pointer (some ⟨h.length + 3, 0, none⟩), .pointer (some ⟨pR, 0, none⟩), .pointer (some ⟨pN, 0, none⟩), .pointer (some ⟨h.length + 4, 0, none⟩)]) := by rw [hvV]; rfl
   have hPl := permL_le hn.2
   have hle3 : ∀ r ∈ rels, LetOk (lastW r) r := fun r hr j hj => by
    have h1 := hlet r hr j hj
    have h2 := lastW_le (nth_mem hj)
    exact ⟨h1.1, by omega, by omega⟩
   have hfix : ∀ h', SubX (h.length + 2) (h.length + 3) h.length (h.length + 1) pO hV h' → hV.length ≤ h'.length → FixI E h' aa pG hK.length pA pR pN (h.length + 4) pO k n gens vV rels := fun h' hs hl => by
    have K : ∀ (b : Nat) (o : O), h[b]? = some o → b ≠ pO → h'[b]? = some o := fun b o hb hn => by
     have := (List.getElem?_eq_some_iff.1 hb).1
     exact hs b o (hVa _ _ hb) (by omega) (by omega) (by omega) (by omega) hn
    refine ⟨⟨_, K _ _ hGh (by omega)⟩, K _ _ hYh (by omega), K _ _ q0h (by omega), fun q hq => ?_, ⟨Rb, rv, K _ _ q2h (by omega), K _ _ hRd.at_ (by omega), fun j hj => ?_⟩, K _ _ hNh (by omega), hs _ _ v4 (by omega) (by omega) (by omega) (by omega) (by omega), fun v c hc1 hc2 => round57 hE (K _ _ hkh (by omega)) g9 hc1 hc2⟩
    ·obtain ⟨b, b', z1, z2, z3, z4, z5⟩ := hrows q hq
     refine ⟨b, b', z1, ?_, by omega, ?_⟩
     ·cases hb : h2[b]? with
      | none => rw [hb] at z3; simp [rdO] at z3
      | some o =>
       have := (List.getElem?_eq_some_iff.1 hb).1
       rw [K _ _ (hkeep _ _ (by omega) (s2Q _ _ hb)) (by omega), ← hb]
       exact z3
     ·have := (List.getElem?_eq_some_iff.1 z5).1
      exact K _ _ (hkeep _ _ (by omega) (s2Q _ _ z5)) (by omega)
    ·obtain ⟨v, z1, z2⟩ := hRd.each j hj
     refine ⟨v, z1, (z2.keep (h' := h') fun b n c _ hb o ho => K _ _ ho (by omega)).mat (fun w xs hx => ?_) ?_⟩
     ·exact hx.sub fun b o hb => K _ _ (sBh _ _ hb) (by have := (List.getElem?_eq_some_iff.1 hb).1; omega)
     ·have := readyL_le rels j
      omega
   have hD0 : DynI hV (h.length + 2) (h.length + 3) h.length (h.length + 1) pO n gens (([] : List (List Int)).length) 0 [] := ⟨v2, v3, ⟨_, v0, by simp, fun q hq => by simp at hq⟩, ⟨_, v1, by simp, fun q hq => by simp [invA] at hq⟩, hVa _ _ hOh⟩
   have hvis := visit2_ (hV := hV) hE hn hgens (fun q hq => permL_perm hq) hle3 (by omega) (hvV' ▸ hfix) (base := pO) ⟨by omega, by omega, by omega, by omega, by omega, by omega⟩ ⟨by omega, by omega, by omega, by omega, by omega, by omega⟩ (by omega) (by omega) (by omega) (by omega) (by omega) (by omega) (by omega) (by omega) (by omega) (by omega) (by omega)
    gens (im := []) (by simp) (fun q hq => by simp at hq) (SubX.refl _ _ _ _ _ _) (Nat.le_refl _) hD0 (by omega) (by simpa using (show ((permL n).length ^ gens : Nat) ≤ (10000000000 : Int) by omega))
   simp [htgt]
   refine (DC.kept hKp hvis).imp ?_
   rintro o ⟨h3, f3⟩ ⟨⟨rfl, w1, w2, w3, w4, w5⟩, w6⟩
   simp only at w1 w2 w3 w4 w5
   have hjo3 : joined ⟨hV, hK.length⟩ ⟨h3, f3⟩ = ⟨h3, min hK.length f3⟩ := by simp only [joined]; rw [if_pos w2]
   simp [hjo3, bit, endK_normal]
   unfold pairQ back
   have hw5 := w5.o
   simp only [Int.zero_add] at hw5
   split
   ·rename_i hc
    simp at hc
    have := w6.same pO (by simp only; omega) (by simp only; omega)
    simp only at this
    rw [hw5, hVa _ _ hOh] at this
    simp at this
    refine ⟨⟨_, rfl⟩, by simp only; omega, fun b o hb _ => hb, ?_⟩
    rw [this]
    exact hO
   ·exact ⟨⟨_, rfl⟩, by simp only; omega, fun b o hb hn => by
     have := (List.getElem?_eq_some_iff.1 hb).1
     exact w4 b o (hVa _ _ (hkeep _ _ (by omega) (s2Q _ _ (s12 _ _ hb)))) (by omega) (by omega) (by omega) (by omega) hn, hw5⟩
 ·refine ⟨0, hQ, _, by omega, rfl, RdI.nil q1 (by omega) (by omega), fun b o _ hb => hb, ?_⟩
  simp
end Go.Proofs.Ytjlkndkedknocaa
namespace Go.Proofs.Ytjlkndkedknocaa
open Go Go.Ai
attribute [local instance] Classical.propDecidable
def FewA (P g : Nat) : Prop := ∀ i, i < g → P ^ (i + 1) ≤ 2000000
noncomputable def genN (G : Dg) : Nat := arC G + G.L.toNat
noncomputable def cntD (G : Dg) (k : Nat) : Nat := cntV k (permL k) (relL G) (genN G) []
noncomputable def countA (n : Nat) (x : Nat → Nat → Int) (s : Nat → Int) (L k : Int) : Int × Int :=
 if kindD n x s L ≠ 0 then (0, kindD n x s L) else if ¬ (1 ≤ k ∧ k ≤ 6) then (0, 1) else if ¬ FewA (permL k.toNat).length (genN (dgOf n x s L)) then (0, 2) else (cntD (dgOf n x s L) k.toNat, 0)
variable {E : Env} (hE : OE E)
include hE
theorem assignments_ {h : List O} {gens n : Nat} {v : Value} (h1 : one1 v = true) :
  DR E 133 [.agg #[.int .i64 gens, v], .int .i64 n] ⟨h, h.length⟩ (.ret (.func (.func 188) #[] #[.pointer (some ⟨h.length + 1, 0, none⟩), .pointer (some ⟨h.length, 0, none⟩)])) ⟨h ++ [.cells [.int .i64 gens, v] 81 (some 0), .cells [.int .i64 n] 3 (some 0)], h.length⟩ := by
 refine hE.fn (body := rb133) rfl ?_
 unfold rb133
 have hs : (Out.ret (.func (.func 188) #[] #[.pointer (some ⟨h.length + 1, 0, none⟩), .pointer (some ⟨h.length, 0, none⟩)])).scalar = false := rfl
 simp [List.append_assoc, endK_ret, back, hs]
theorem countW_ (hKp : SumsKept E) {h0 : List O} {a : Option Addr} {n c : Nat} {x : Nat → Nat → Int} {s : Nat → Int} {L k : Int} (hx : CrossP h0 a n x s) :
  DR E 57 [dV a n c L, .int .i64 k] ⟨h0, h0.length⟩ (.ret (.tuple #[.int .i64 (countA n x s L k).1, .int .i64 (countA n x s L k).2])) ⟨h0, h0.length⟩ := by
 refine hE.fn (body := rb57) rfl ?_
 unfold rb57
 have hx1 : CrossP (h0 ++ [O.cells [.slice a n c, .int .i64 L] 24 (some 0)]) a n x s := hx.ext (Ext.snoc _ _)
 have h1 := check_ hE (c := c) (L := L) hx1
 simp [dV] at h1
 have hsc : ∀ y z : Int, (Out.ret (.tuple #[.int .i64 y, .int .i64 z])).scalar = true := fun _ _ => rfl
 by_cases hk : kindD n x s L = 0
 ·by_cases hk6 : 1 ≤ k ∧ k ≤ 6
  ·obtain ⟨m, rfl⟩ : ∃ m : Nat, k = m := ⟨k.toNat, by omega⟩
   have hm : 1 ≤ m ∧ m ≤ 6 := by omega
   have hS := (kind_zero hk).1
   have h2 := newLinkC_ hE (c := c) hx1 hk
   simp [dV] at h2
   have nl1 : ¬ ((m : Int) < 1) := by omega
   have ng6 : ¬ (6 < (m : Int)) := by omega
   have hcA : countA n x s L (m : Int) = if ¬ FewA (permL m).length (genN (dgOf n x s L)) then (0, 2) else ((cntD (dgOf n x s L) m : Int), 0) := by
    unfold countA
    rw [if_neg (by simp [hk]), if_neg (by simp; omega)]
    rfl
   rw [hcA]
   obtain ⟨G, hGe⟩ : ∃ G, G = dgOf n x s L := ⟨_, rfl⟩
   have hG : GoodG G := by rw [hGe]; exact good_of hS
   have hGn : G.n = n := by rw [hGe]; rfl
   have hGL : G.L = L := by rw [hGe]; rfl
   have hloops := hG.loops
   have hac := arC_le G
   have hsz := hG.size
   obtain ⟨g, hg⟩ : ∃ g, g = genN G := ⟨_, rfl⟩
   have hg' : (arC G : Int) + L = (g : Int) := by rw [hg, ← hGL]; unfold genN; omega
   have hgl : g ≤ 600 := by omega
   rw [← hGe, ← hg]
   obtain ⟨P, hP⟩ : ∃ P, P = (permL m).length := ⟨_, rfl⟩
   have hPl : P ≤ 46656 := by rw [hP]; exact permL_le hm.2
   rw [← hP]
   obtain ⟨zz, hzz⟩ : ∃ zz, zz = (if ¬ FewA P g then ((0 : Int), (2 : Int)) else ((cntD G m : Int), 0)) := ⟨_, rfl⟩
   rw [← hzz]
   simp [dV, rdN_at0, DC_of h1, hk, nl1, ng6, joined_fl]
   refine h2.imp ?_
   rintro o ⟨h3, f3⟩ ⟨pl, rfl, hp, hf, hs, hl⟩
   simp only at hf hs hl
   have hs0 : Sub h0 h3 := ((Sub.refl h0).app _).trans hs
   simp [joined_fl, hf]
   refine (presentation_ hE hl hS).imp ?_
   rintro o ⟨h4, f4⟩ ⟨v, rfl, hs4, hf4, hM⟩
   simp only at hf4 hs4 hM
   rw [← hGe] at hM ⊢
   rw [hg']
   have hM0 := hM.mat
   have hone : one1 v = true := by obtain ⟨va, vb, vo, vc, vvs, hv, hvr⟩ := hM0; rw [hv]; rfl
   have hl3 := hs.len
   simp at hl3
   have hl4 := hs4.len
   have hmin4 : min h0.length h4.length = h0.length := by omega
   obtain ⟨H, hH⟩ : ∃ H, H = h4 ++ [O.cells [.int .i64 g, v] 81 (some 0)] := ⟨_, rfl⟩
   have hlH : H.length = h4.length + 1 := by rw [hH]; simp
   have hsH : Sub h4 H := by rw [hH]; exact (Sub.refl _).app _
   have hs0H : Sub h0 H := (hs0.trans hs4).trans hsH
   have q6 : H[h4.length]? = some (.cells [.int .i64 g, v] 81 (some 0)) := by rw [hH, app_at0]; rfl
   simp [joined_fl, hf4, wrN_at0, hone, set_at0, hmin4, ← hH, rd_def, q6]
   refine DW_loop (fun kk fr st => ∃ (i : Nat) (h : List O), i + kk = g ∧ st = ⟨h, h0.length⟩ ∧ Sub H h ∧ (∀ i', i' < i → P ^ (i' + 1) ≤ 2000000) ∧ get fr 1 = .int .i64 m ∧ get fr 7 = .pointer (some ⟨h4.length, 0, none⟩) ∧ get fr 8 = .int .i64 ((P ^ i : Nat) : Int) ∧ get fr 25 = .int .i64 g ∧ get fr 26 = .int .i64 i) ?_ (k := g) ?_
   ·rintro kk fr st ⟨i, h, hik, rfl, hsub, hfew, g1, g7, g8, g25, g26⟩
    have hhl := hsub.len
    have q6h := hsub _ _ q6
    by_cases hi : i < g
    ·have hw : IntKind.i64.wrap ((i : Int) + 1) = (i : Int) + 1 := by rw [w64_id] <;> omega
     have hpi : P ^ i ≤ 2000000 := by
      cases i with
      | zero => simp
      | succ i => exact hfew i (by omega)
     have hpm : P ^ i * P ≤ 2000000 * 46656 := Nat.mul_le_mul hpi hPl
     have hpw : IntKind.i64.wrap (((P ^ i : Nat) : Int) * (P : Int)) = ((P ^ (i + 1) : Nat) : Int) := by
      rw [Nat.pow_succ, ← Int.natCast_mul]
      rw [w64_id] <;> omega
     obtain ⟨p0, hp0⟩ : ∃ p0, p0 = P ^ i := ⟨_, rfl⟩
     obtain ⟨p1, hp1⟩ : ∃ p1, p1 = P ^ (i + 1) := ⟨_, rfl⟩
     rw [← hp0] at g8 hpw
     rw [← hp1] at hpw
     simp [g1, g7, g8, g25, g26, hi]
     refine (permutations_ hE hm).imp ?_
     rintro o ⟨h5, f5⟩ ⟨w, rfl, s5, hf5, hPP⟩
     simp only at s5 hf5 hPP
     obtain ⟨wa, rfl, _⟩ := hPP.look
     rw [← hP]
     by_cases hbig : p1 ≤ 2000000
     ·have hb1 : ¬ (2000000 < (p1 : Int)) := by omega
      simp [joined_fl, hf5, g1, g7, g8, g25, g26, hpw, hb1, hw]
      refine ⟨kk - 1, by omega, i + 1, by omega, hsub.trans s5, fun i' hi' => ?_, by rw [hp1]; push_cast; rfl, by omega⟩
      by_cases e : i' < i
      ·exact hfew i' e
      ·obtain rfl : i' = i := by omega
       omega
     ·have hb1 : 2000000 < (p1 : Int) := by omega
      have hnF : ¬ FewA P g := fun hF => hbig (by rw [hp1]; exact hF i hi)
      rw [if_pos hnF] at hzz
      subst hzz
      simp [joined_fl, hf5, g1, g7, g8, g25, g26, hpw, hb1, hw, endK_ret, back, hsc]
    ·obtain rfl : i = g := by omega
     have hF : FewA P i := hfew
     rw [if_neg (fun h => h hF)] at hzz
     obtain ⟨pO, hpO⟩ : ∃ pO, pO = h.length := ⟨_, rfl⟩
     obtain ⟨h6, hh6⟩ : ∃ h6, h6 = h ++ [O.cells [.int .i64 0] 3 (some 0)] := ⟨_, rfl⟩
     have l6 : h6.length = h.length + 1 := by rw [hh6]; simp
     have q66 : h6[h4.length]? = some (.cells [.int .i64 i, v] 81 (some 0)) := by rw [hh6]; exact app_of q6h _
     have has := assignments_ hE (h := h6) (gens := i) (n := m) hone
     obtain ⟨h7, hh7⟩ : ∃ h7, h7 = h6 ++ [O.cells [.int .i64 i, v] 81 (some 0), O.cells [.int .i64 m] 3 (some 0)] := ⟨_, rfl⟩
     rw [← hh7] at has
     have l7 : h7.length = h.length + 3 := by rw [hh7]; simp [l6]
     have hmnh : min h0.length h.length = h0.length := by omega
     simp [g1, g8, g25, g26, wrN_at0, set_at0, hmnh]
     rw [← hh6]
     simp [g1, g7, g8, g25, g26, rd_def, rdN_def, q66, DC_of has, joined_fl]
     rw [← hpO]
     obtain ⟨pG, hpG⟩ : ∃ pG, pG = h6.length := ⟨_, rfl⟩
     obtain ⟨pN, hpN⟩ : ∃ pN, pN = h6.length + 1 := ⟨_, rfl⟩
     rw [← hpN, ← hpG]
     have z0 : h6[pO]? = some (O.cells [.int .i64 0] 3 (some 0)) := by rw [hh6, hpO, app_at0]; rfl
     have z1 : h7[pG]? = some (O.cells [.int .i64 i, v] 81 (some 0)) := by rw [hh7, hpG, app_at0]; rfl
     have z2 : h7[pN]? = some (O.cells [.int .i64 m] 3 (some 0)) := by rw [hh7, hpN, app_at]; rfl
     refine DW_rangeF (f := 188) (vs := [tok h7.length, .pointer (some ⟨pN, 0, none⟩), .pointer (some ⟨pG, 0, none⟩)]) (by simp) (by decide) ?_
     obtain ⟨frL, hfrL⟩ : ∃ frL, frL = put (put (put (put (put fr 27 (Value.bool false)) 9 (Value.pointer (some ⟨pO, 0, none⟩))) 36 (Value.agg #[.int .i64 i, v])) 37 (Value.int .i64 m)) 38 (Value.func (Fn.func 188) #[] #[Value.pointer (some ⟨pN, 0, none⟩), Value.pointer (some ⟨pG, 0, none⟩)]) := ⟨_, rfl⟩
     simp only []
     rw [← hfrL]
     have g9 : get frL 9 = .pointer (some ⟨pO, 0, none⟩) := by rw [hfrL]; simp
     obtain ⟨hK, hhK⟩ : ∃ hK, hK = h7 ++ [O.loop false 43 frL [39] (lcA 57 0) (lcB 57 0)] := ⟨_, rfl⟩
     have lK : hK.length = h7.length + 1 := by rw [hhK]; simp
     rw [← hhK, ← lK]
     have s67 : Sub h6 hK := by rw [hhK, hh7]; exact ((Sub.refl _).app _).app _
     have s7 : Sub h7 hK := by rw [hhK]; exact (Sub.refl _).app _
     have shK : Sub h hK := fun b o hb => s67 _ _ (by rw [hh6]; exact app_of hb _)
     have hkK : hK[h7.length]? = some (O.loop false 43 frL [39] (lcA 57 0) (lcB 57 0)) := by rw [hhK, app_at0]; rfl
     have hRl := relL_length G
     have hlet : ∀ r ∈ relL G, LetOk i r := fun r hr => by
      obtain ⟨q, hq, rfl⟩ := List.mem_map.1 hr
      exact relOf_let hG (List.mem_range.1 hq) (by rw [hg]; unfold genN; omega)
     have hcnt : (permL m).length ^ i ≤ 10000000000 := by
      rw [← hP]
      cases i with
      | zero => simp
      | succ i => have := hF i (by omega); omega
     refine (assign1_ hE hKp (hB := h4) hm hgl (by omega) hlet (hsH.trans (hsub.trans shK)) (by omega) hM0 hkK g9 (s67 _ _ z0) (s7 _ _ z2) (s7 _ _ z1) ⟨by omega, by omega, by omega⟩ hcnt).imp ?_
     rintro o ⟨h8, f8⟩ ⟨⟨w, rfl⟩, y1, y2, y3⟩
     simp only at y1 y2 y3
     refine ⟨⟨_, rfl⟩, ?_⟩
     have hk8 := y2 _ _ hkK (by omega)
     obtain ⟨f9, hj9, hf9⟩ : ∃ f9, joined ⟨hK, h0.length⟩ ⟨h8, f8⟩ = ⟨h8, f9⟩ ∧ h0.length ≤ f9 := by
      simp only [joined]
      split
      ·exact ⟨_, rfl, by omega⟩
      ·exact ⟨_, rfl, by omega⟩
     rw [hj9]
     refine ⟨_, over_eq hk8, ?_⟩
     have y4 : (h8.set h7.length .dead)[pO]? = some (.cells [.int .i64 (cntV m (permL m) (relL G) i [])] 3 (some 0)) := set_ne y3 (by omega)
     have hzc : cntD G m = cntV m (permL m) (relL G) i [] := by unfold cntD; rw [← hg]
     have hmf : h0.length ≤ min f9 h7.length := by omega
     rw [hzz, hzc]
     simp [g9, rd_def, y4, endK_ret, back, hsc]
     rw [if_pos hmf]
     exact ⟨rfl, rfl⟩
   ·exact ⟨0, H, by omega, rfl, Sub.refl _, fun i' hi' => by omega, by simp⟩
  ·unfold countA
   rw [if_neg (by simp [hk]), if_pos hk6]
   by_cases hlt : k < 1
   ·simp [dV, rdN_at0, DC_of h1, hk, hlt, endK_ret, joined_fl, back, hsc]
   ·have hgt : 6 < k := by omega
    simp [dV, rdN_at0, DC_of h1, hk, hlt, hgt, endK_ret, joined_fl, back, hsc]
 ·unfold countA
  rw [if_pos hk]
  simp [dV, rdN_at0, DC_of h1, hk, endK_ret, joined_fl, back, hsc]
end Go.Proofs.Ytjlkndkedknocaa
namespace Go.Proofs.Ytjlkndkedknocaa
open Go Go.Ai
noncomputable def GT : Dg := dgOf 3 xT sT 0
theorem GT_good : GoodG GT := good_of (kind_zero kind_T).1
theorem GT_X (i j : Nat) : GT.X i j = (xT i j).toNat := rfl
def outT : List (Nat × Nat) := [(1, 2), (0, 1), (2, 2), (1, 1), (0, 2), (2, 1)]
def inT : List (Nat × Nat) := [(0, 3), (2, 0), (1, 3), (0, 0), (2, 3), (1, 0)]
theorem in_T : ∀ c, c < 3 → ∀ q, q < 4 → outB 1 q = false → inT.getD (xT c q).toNat (0, 0) = (c, q) := by decide
theorem GT_in {a : Nat} (ha : a < 6) : finT GT a = inT.getD a (0, 0) := by
 obtain ⟨t0, t1, t2, t3, x1, x2, _⟩ := GT_good.T a ha
 obtain ⟨d1, d2⟩ := GT_good.dir a ha
 have := in_T (GT.T a 2) t2 (GT.T a 3) t3 d2
 rw [← GT_X, x2] at this
 exact this.symm
theorem GT_nx {a : Nat} (ha : a < 6) : nx GT a = (a + 1) % 6 := by
 have h := GT_in ha
 unfold finT at h
 have h1 := congrArg Prod.fst h
 have h2 := congrArg Prod.snd h
 simp only at h1 h2
 unfold nx
 rw [h1, h2, GT_X]
 match a, ha with
 | 0, _ => rfl
 | 1, _ => rfl
 | 2, _ => rfl
 | 3, _ => rfl
 | 4, _ => rfl
 | 5, _ => rfl
theorem GT_itr {a : Nat} (ha : a < 6) : ∀ t, itr (nx GT) a t = (a + t) % 6 := by
 intro t
 induction t with
 | zero => simp only [itr]; omega
 | succ t ih =>
  simp only [itr]
  rw [ih, GT_nx (by omega)]
  omega
theorem GT_orb : OrbI 6 (nx GT) 6 1 [0, 0, 0, 0, 0, 0] := by
 have h0 : ∀ j, j < 6 → nth [0, 0, 0, 0, 0, 0] j = 0 := by decide
 refine ⟨rfl, fun j hj => .inr ⟨by rw [h0 j hj]; exact Int.le_refl _, by rw [h0 j hj]; decide⟩, fun j hj => by rw [h0 j hj]; exact Int.le_refl _, fun a b ha hb _ => ⟨fun _ => ⟨b + 6 - a, ?_⟩, fun _ => by rw [h0 a ha, h0 b hb]⟩, fun j hj => ⟨0, by omega, by rw [h0 0 (by omega)]; omega, fun b hb => by omega⟩⟩
 rw [GT_itr ha]
 omega
theorem GT_cp : cpL GT = [0, 0, 0, 0, 0, 0] ∧ cpK GT = 1 := by
 obtain ⟨h1, h2⟩ := cp_eq (G := GT) GT_orb
 exact ⟨h1.symm, h2.symm⟩
theorem GT_per : perA GT 0 = 6 := by
 obtain ⟨⟨h1, h2, h3⟩, h4⟩ := perA_spec GT_good (show 0 < 2 * GT.n by decide)
 rw [GT_itr (by omega)] at h2
 have h5 : 2 * GT.n = 6 := rfl
 omega
theorem GT_arR : ∀ a, a < 6 → arR GT a = a / 2 * 2 := by
 intro a ha
 match a, ha with
 | 0, _ => rfl
 | 1, _ => rfl
 | 2, _ => rfl
 | 3, _ => rfl
 | 4, _ => rfl
 | 5, _ => rfl
theorem GT_cnt : ∀ i, i ≤ 6 → cntR (arR GT) i = (i + 1) / 2 := by
 intro i
 induction i with
 | zero => intro _; rfl
 | succ i ih =>
  intro hi
  rw [cntR_succ, ih (by omega), GT_arR i (by omega)]
  split <;> omega
theorem GT_arN {a : Nat} (ha : a < 6) : arN GT a = a / 2 := by
 unfold arN
 rw [GT_arR a ha, GT_cnt _ (by omega)]
 omega
theorem GT_arC : arC GT = 3 := GT_cnt 6 (by omega)
theorem GT_gen {c q : Nat} (hc : c < 3) (hq : q < 4) : gen GT (GT.X c q) = ((xT c q).toNat / 2 : Nat) + 1 := by
 unfold gen
 rw [GT_arN (GT_good.X c q hc hq)]
 rfl
def relsT : List (List Int) := [[-1, 2, 1, -3], [-2, 3, 2, -1], [-3, 1, 3, -2]]
theorem GT_rel : relL GT = relsT := by
 have h : ∀ i, i < 3 → relOf GT i = nthR relsT i := fun i hi => by
  unfold relOf
  rw [GT_gen hi (by omega), GT_gen hi (by omega), GT_gen hi (by omega)]
  match i, hi with
  | 0, _ => rfl
  | 1, _ => rfl
  | 2, _ => rfl
 show [relOf GT 0, relOf GT 1, relOf GT 2] = relsT
 rw [h 0 (by omega), h 1 (by omega), h 2 (by omega)]
 rfl
theorem GT_word {c q : Nat} (hc : c < 3) (hq : q < 4) : wordP GT (c, q) = if q = 0 then [(((xT c 1).toNat / 2 : Nat) : Int) + 1] else [] := by
 unfold wordP
 split
 ·rw [GT_gen hc (by omega)]
  show [_ * (1 : Int)] = _
  rw [Int.mul_one]
 ·rfl
theorem GT_own {c q : Nat} (hc : c < 3) (hq : q < 4) : ownP GT 0 (c, q) = if q = 0 then 1 else 0 := by
 unfold ownP
 rw [GT_cp.1]
 have h0 : nth [0, 0, 0, 0, 0, 0] (GT.X c 1) = 0 := by
  have h := GT_good.X c 1 hc (by omega)
  have hj : ∀ j, j < 6 → nth [0, 0, 0, 0, 0, 0] j = 0 := by decide
  exact hj _ h
 simp only [h0, and_true]
 rfl
theorem GT_lon : lonD GT 0 = [3, 1, 2, -1, -1, -1] := by
 have hf : fstA GT 0 = 0 := by
  unfold fstA
  exact firstI_found (i := 0) (by decide) (by rw [GT_cp.1]; rfl) (fun j hj => by omega)
 have hi : ∀ t, t < 6 → finT GT (itr (nx GT) 0 t) = inT.getD t (0, 0) := fun t ht => by
  rw [GT_itr (by omega), Nat.zero_add, Nat.mod_eq_of_lt ht, GT_in ht]
 have hw : wordT GT 0 6 = [3, 1, 2] := by
  simp only [wordT]
  rw [hi 0 (by omega), hi 1 (by omega), hi 2 (by omega), hi 3 (by omega), hi 4 (by omega), hi 5 (by omega)]
  show ((((([] ++ wordP GT (0, 3)) ++ wordP GT (2, 0)) ++ wordP GT (1, 3)) ++ wordP GT (0, 0)) ++ wordP GT (2, 3)) ++ wordP GT (1, 0) = _
  rw [GT_word (by omega) (by omega), GT_word (by omega) (by omega), GT_word (by omega) (by omega), GT_word (by omega) (by omega), GT_word (by omega) (by omega), GT_word (by omega) (by omega)]
  rfl
 have ho : lonS GT 0 = 3 := by
  unfold lonS
  rw [hf]
  show ownT GT 0 0 (perA GT 0) = 3
  rw [GT_per]
  simp only [ownT]
  rw [hi 0 (by omega), hi 1 (by omega), hi 2 (by omega), hi 3 (by omega), hi 4 (by omega), hi 5 (by omega)]
  show (((((0 + ownP GT 0 (0, 3)) + ownP GT 0 (2, 0)) + ownP GT 0 (1, 3)) + ownP GT 0 (0, 0)) + ownP GT 0 (2, 3)) + ownP GT 0 (1, 0) = 3
  rw [GT_own (by omega) (by omega), GT_own (by omega) (by omega), GT_own (by omega) (by omega), GT_own (by omega) (by omega), GT_own (by omega) (by omega), GT_own (by omega) (by omega)]
  rfl
 have hm : merD GT 0 = 1 := by
  unfold merD
  rw [hf]
  show (if (0 : Int) ≤ 0 then ((arN GT 0 : Nat) : Int) + 1 else _) = 1
  rw [GT_arN (by omega)]
  rfl
 unfold lonD
 rw [hf, ho, hm]
 show (if (0 : Int) ≤ 0 then wordT GT 0 (perA GT 0) ++ List.replicate 3 (-1) ++ List.replicate 0 1 else []) = _
 rw [GT_per, hw]
 rfl
end Go.Proofs.Ytjlkndkedknocaa
namespace Go.Proofs.Ytjlkndkedknocaa
open Go Go.Ai
def trivB (A B : List (List Int)) (w : List Int) (n : Nat) : Bool := (List.range n).all fun i => actW A B w i == (i : Int)
theorem trivB_eq {A B : List (List Int)} {w : List Int} {n : Nat} : trivB A B w n = true ↔ TrivL A B w n := by
 unfold trivB TrivL
 rw [List.all_eq_true]
 exact ⟨fun h i hi => by simpa using h i (List.mem_range.2 hi), fun h i hi => by simpa using h i (List.mem_range.1 hi)⟩
def goodB (n : Nat) (rels A : List (List Int)) : Bool := (List.range (readyL rels A.length).length).all fun i => trivB A (A.map invL) (nthR (readyL rels A.length) i) n
theorem goodB_eq {n : Nat} {rels A : List (List Int)} : goodB n rels A = true ↔ GoodA n rels A := by
 unfold goodB GoodA
 rw [List.all_eq_true]
 exact ⟨fun h i hi => trivB_eq.1 (h i (List.mem_range.2 hi)), fun h i hi => trivB_eq.2 (h i (List.mem_range.1 hi))⟩
def cntB (n : Nat) (P rels : List (List Int)) : Nat → List (List Int) → Nat
 | 0, _ => 1
 | m + 1, im => sumNat (fun q => bif goodB n rels (im ++ [nthR P q]) then cntB n P rels m (im ++ [nthR P q]) else 0) P.length
theorem cntB_eq (n : Nat) (P rels : List (List Int)) : ∀ m im, cntV n P rels m im = cntB n P rels m im := by
 intro m
 induction m with
 | zero => intro im; rfl
 | succ m ih =>
  intro im
  simp only [cntV, cntB]
  congr 1
  funext q
  rw [ih]
  by_cases h : GoodA n rels (im ++ [nthR P q])
  ·rw [if_pos h, goodB_eq.2 h]; rfl
  ·rw [if_neg h]
   have : goodB n rels (im ++ [nthR P q]) = false := by
    cases hb : goodB n rels (im ++ [nthR P q]) with
    | true => exact absurd (goodB_eq.1 hb) h
    | false => rfl
   rw [this]; rfl
set_option maxRecDepth 100000 in
theorem cnt_T : cntB 3 (permL 3) relsT 3 [] = 12 := by kernel_rfl
theorem count_T : countA 3 xT sT 0 3 = (12, 0) := by
 have hP : (permL 3).length = 6 := by decide
 have hg : genN GT = 3 := by unfold genN; rw [GT_arC]; rfl
 have hF : FewA (permL 3).length (genN (dgOf 3 xT sT 0)) := by
  show FewA (permL 3).length (genN GT)
  rw [hP, hg]
  intro i hi
  match i, hi with
  | 0, _ => decide
  | 1, _ => decide
  | 2, _ => decide
 unfold countA
 rw [if_neg (by simp [kind_T]), if_neg (by decide), if_neg (fun h => h hF)]
 show ((cntV 3 (permL 3) (relL GT) (genN GT) [] : Int), (0 : Int)) = (12, 0)
 rw [hg, GT_rel, cntB_eq, cnt_T]
 rfl
end Go.Proofs.Ytjlkndkedknocaa
namespace Go.Proofs.Ytjlkndkedknocaa
open Go Go.Ai
attribute [local instance] Classical.propDecidable
structure WE (E : Env) : Prop where
 oe : OE E
 kept : SumsKept E
 walk : ∀ (h : List O) (pl n : Nat) (x : Nat → Nat → Int) (s : Nat → Int) (L i : Int), LnkP h pl n x s L → Snd n x s L → DR E 148 [.pointer (some ⟨pl, 0, none⟩), .int .i64 i] ⟨h, h.length⟩ (.ret (walkV h)) ⟨walkM h pl i (dgOf n x s L), h.length⟩
noncomputable def E1 : Env := withK E0 4 148
theorem walk_callable : Callable Try.prog 148 := callableB_ok (by kernel_rfl)
theorem E1_ok (B : Nat) : EnvOk Fence.wide Try.prog B E1 := withK_ok follows E0_ok E0_kept walk_callable B
theorem E1_WE : WE E1 := ⟨E0_OE.sum148, withK_kept E0_kept, fun h pl n x s L i hl hS => by
 refine withK_DR (walk_ E0_OE (E0_S _) hl hS i) ⟨Nat.le_refl _, ?_, fun id h1 _ => ?_⟩
 ·simp only [walkM]; simp
 ·simp only [walkM]
  rw [List.append_assoc]
  exact List.getElem?_append_left h1⟩
theorem ints_at {h : List O} {v : Value} {xs : List Int} (hx : Ints h v xs) : ∃ a b o c, v = .slice a xs.length c ∧ (0 < xs.length → a = some ⟨b, o, none⟩) ∧ (∀ i, i < xs.length → rdO h[b]? (o + i) = some (.int .i64 (nth xs i))) ∧ xs.length < 2 ^ 62 := by
 obtain ⟨a, b, o, c, h1, h2, h3, h4, h5⟩ := hx
 exact ⟨a, b, o, c, h1, h2, fun i hi => by rw [← rd_def]; exact h3 i hi, h5⟩
variable {E : Env} (hE : OE E)
include hE
theorem sameI_ {h : List O} {va vb : Value} {xs ys : List Int} (hx : Ints h va xs) (hy : Ints h vb ys) :
  DR E 76 [va, vb] ⟨h, h.length⟩ (.ret (.bool (decide (xs = ys)))) ⟨h, h.length⟩ := by
 refine hE.fn (body := rb76) rfl ?_
 unfold rb76
 obtain ⟨xa, xb, xo, xc, rfl, ha, hxr, hxl⟩ := ints_at hx
 obtain ⟨ya, yb, yo, yc, rfl, hb, hyr, hyl⟩ := ints_at hy
 have hsc : ∀ b : Bool, (Out.ret (.bool b)).scalar = true := fun _ => rfl
 by_cases hl : xs.length = ys.length
 ·have hl' : (xs.length : Int) = ys.length := by omega
  simp [hl']
  refine DW_loop (fun kk fr st => ∃ (i : Nat), i + kk = ys.length ∧ st = ⟨h, h.length⟩ ∧ (∀ j, j < i → nth xs j = nth ys j) ∧ get fr 0 = .slice xa xs.length xc ∧ get fr 1 = .slice ya ys.length yc ∧ get fr 12 = .int .i64 ys.length ∧ get fr 13 = .int .i64 i) ?_ (k := ys.length) ?_
  ·rintro kk fr st ⟨i, hik, rfl, hd, g0, g1, g12, g13⟩
   by_cases hi : i < ys.length
   ·have hw : IntKind.i64.wrap ((i : Int) + 1) = (i : Int) + 1 := by rw [w64_id] <;> omega
    have hi' : i < xs.length := by omega
    obtain rfl := ha (by omega)
    obtain rfl := hb (by omega)
    by_cases he : nth xs i = nth ys i
    ·simp [g0, g1, g12, g13, hi, hi', hl, rd_def, hxr i hi', hyr i hi, he, hw]
     refine ⟨kk - 1, by omega, i + 1, by omega, fun j hj => ?_, by omega⟩
     by_cases e : j = i
     ·rw [e]; exact he
     ·exact hd j (by omega)
    ·have hne : ¬ xs = ys := fun e => he (by rw [e])
     simp [g0, g1, g12, g13, hi, hi', hl, rd_def, hxr i hi', hyr i hi, he, hne, endK_ret, back, hsc]
   ·obtain rfl : i = ys.length := by omega
    have heq : xs = ys := by
     apply List.ext_getElem hl
     intro j h1 h2
     rw [← nth_eq h1, ← nth_eq h2]
     exact hd j h2
    simp [g0, g1, g12, g13, heq, endK_ret, back, hsc]
  ·exact ⟨0, by omega, rfl, fun j hj => by omega, by simp [hl]⟩
 ·have hl' : ¬ (xs.length : Int) = ys.length := by omega
  have hne : ¬ xs = ys := fun e => hl (by rw [e])
  simp [hl, hl', hne, endK_ret, back, hsc]
end Go.Proofs.Ytjlkndkedknocaa
namespace Go.Proofs.Ytjlkndkedknocaa
open Go Go.Ai
attribute [local instance] Classical.propDecidable
theorem saneW_ {E : Env} (hW : WE E) {h0 : List O} : DR E 56 [] ⟨h0, h0.length⟩ (.ret (.bool true)) ⟨h0, h0.length⟩ := by
 have hE := hW.oe
 refine hE.fn (body := rb56) rfl ?_
 unfold rb56
 have hp := parse_ hE kind_T (h0 := h0)
 unfold textB at hp
 simp
 refine hp.imp ?_
 rintro o ⟨h1, f1⟩ ⟨a, c, rfl, s1, hf1, hx⟩
 simp only at s1 hf1 hx
 have hx2 : CrossP (h1 ++ [O.cells [.slice a 3 c, .int .i64 0] 24 (some 0)]) a 3 xT sT := hx.ext (Ext.snoc _ _)
 have hc := countW_ hE hW.kept (c := c) (L := 0) (k := 3) hx2
 rw [count_T] at hc
 simp [dV] at hc
 have hl := longitude_ hE hW.walk (c := c) (L := 0) hx2 0
 simp [dV, kind_T] at hl
 have hone : ∀ n, one1 (.slice a n c) = true := fun _ => rfl
 simp [joined_fl, hf1, dV, wrN_at0, set_at0, rdN_at0, DC_of hc]
 refine hl.imp ?_
 rintro o ⟨h2, f2⟩ hq
 have hcp : cpK (dgOf 3 xT sT 0) = 1 := GT_cp.2
 rw [hcp] at hq
 simp at hq
 obtain ⟨v, rfl, s2, hf2, hI⟩ := hq
 simp only at s2 hf2 hI
 have hlon : lonD (dgOf 3 xT sT 0) 0 = [3, 1, 2, -1, -1, -1] := GT_lon
 rw [hlon] at hI
 simp at hf2
 have s02 : h1.length + 1 ≤ h2.length := by
  have h0 : (h1 ++ [O.cells [.slice a 3 c, .int .i64 0] 24 (some 0)])[h1.length]? = some (O.cells [.slice a 3 c, .int .i64 0] 24 (some 0)) := by rw [app_at0]; rfl
  have := (List.getElem?_eq_some_iff.1 (s2 _ _ h0)).1
  omega
 have hl1 := s1.len
 have hmn : min h0.length h1.length = h0.length := by omega
 have hI2 := hI.ext (Ext.snoc h2 [O.cells (intsC [3, 1, 2, -1, -1, -1]) 3 (some 0)])
 have hJ : Ints (h2 ++ [O.cells (intsC [3, 1, 2, -1, -1, -1]) 3 (some 0)]) (.slice (some ⟨h2.length, 0, none⟩) 6 6) [3, 1, 2, -1, -1, -1] := by
  refine ⟨_, h2.length, 0, 6, rfl, fun _ => rfl, fun i hi => ?_, fun i => ?_, by decide⟩
  ·rw [rd_def, app_at0]
   match i, hi with
   | 0, _ => rfl
   | 1, _ => rfl
   | 2, _ => rfl
   | 3, _ => rfl
   | 4, _ => rfl
   | 5, _ => rfl
  ·match i with
   | 0 => decide
   | 1 => decide
   | 2 => decide
   | 3 => decide
   | 4 => decide
   | 5 => decide
   | i + 6 => rw [nth_ge (by simp)]; decide
 have hs := sameI_ hE hI2 hJ
 rw [decide_eq_true rfl] at hs
 simp [intsC] at hs
 simp [joined_fl, hf2, hmn, DC_of hs, endK_ret, back]
 rw [if_pos (show (Out.ret (Value.bool true)).scalar = true from rfl)]
 exact ⟨rfl, rfl⟩
end Go.Proofs.Ytjlkndkedknocaa
namespace Go.Ai
end Go.Ai
namespace Go.Proofs.Ytjlkndkedknocaa
open Go Go.Ai
attribute [local instance] Classical.propDecidable
theorem mat_at {h : List O} {v : Value} {A : List (List Int)} (hm : Mat h v A) : ∃ a b o c, ∃ vs : Nat → Value, v = .slice a A.length c ∧ (0 < A.length → a = some ⟨b, o, none⟩) ∧ (∀ i, i < A.length → rdO h[b]? (o + i) = some (vs i) ∧ Ints h (vs i) (nthR A i)) ∧ A.length < 2 ^ 62 := by
 obtain ⟨a, b, o, c, vs, h1, h2, h3, h4⟩ := hm
 exact ⟨a, b, o, c, vs, h1, h2, fun i hi => ⟨by rw [← rd_def]; exact (h3 i hi).1, (h3 i hi).2⟩, h4⟩
variable {E : Env} (hE : OE E)
include hE
theorem sameRels_ {h : List O} {va vb : Value} {A B : List (List Int)} (hx : Mat h va A) (hy : Mat h vb B) :
  DR E 79 [va, vb] ⟨h, h.length⟩ (.ret (.bool (decide (A = B)))) ⟨h, h.length⟩ := by
 refine hE.fn (body := rb79) rfl ?_
 unfold rb79
 obtain ⟨xa, xb, xo, xc, xs, rfl, ha, hxr, hxl⟩ := mat_at hx
 obtain ⟨ya, yb, yo, yc, ys, rfl, hb, hyr, hyl⟩ := mat_at hy
 have hsc : ∀ b : Bool, (Out.ret (.bool b)).scalar = true := fun _ => rfl
 by_cases hl : A.length = B.length
 ·have hl' : (A.length : Int) = B.length := by omega
  simp [hl']
  refine DW_loop (fun kk fr st => ∃ (i : Nat), i + kk = B.length ∧ st = ⟨h, h.length⟩ ∧ (∀ j, j < i → nthR A j = nthR B j) ∧ get fr 0 = .slice xa A.length xc ∧ get fr 1 = .slice ya B.length yc ∧ get fr 12 = .int .i64 B.length ∧ get fr 13 = .int .i64 i) ?_ (k := B.length) ?_
  ·rintro kk fr st ⟨i, hik, rfl, hd, g0, g1, g12, g13⟩
   by_cases hi : i < B.length
   ·have hw : IntKind.i64.wrap ((i : Int) + 1) = (i : Int) + 1 := by rw [w64_id] <;> omega
    have hi' : i < A.length := by omega
    obtain rfl := ha (by omega)
    obtain rfl := hb (by omega)
    obtain ⟨r1, r2⟩ := hxr i hi'
    obtain ⟨r3, r4⟩ := hyr i hi
    have hs := sameI_ hE r2 r4
    by_cases he : nthR A i = nthR B i
    ·rw [decide_eq_true he] at hs
     simp [g0, g1, g12, g13, hi, hi', hl, rd_def, r1, r3, DC_of hs, hw, bit]
     refine ⟨kk - 1, by omega, i + 1, by omega, fun j hj => ?_, by omega⟩
     by_cases e : j = i
     ·rw [e]; exact he
     ·exact hd j (by omega)
    ·have hne : ¬ A = B := fun e => he (by rw [e])
     rw [decide_eq_false he] at hs
     simp [g0, g1, g12, g13, hi, hi', hl, rd_def, r1, r3, DC_of hs, hne, endK_ret, back, hsc, bit]
   ·obtain rfl : i = B.length := by omega
    have heq : A = B := by
     apply List.ext_getElem hl
     intro j h1 h2
     have := hd j h2
     simpa [nthR, h1, h2] using this
    simp [g0, g1, g12, g13, heq, endK_ret, back, hsc]
  ·exact ⟨0, by omega, rfl, fun j hj => by omega, by simp [hl]⟩
 ·have hl' : ¬ (A.length : Int) = B.length := by omega
  have hne : ¬ A = B := fun e => hl (by rw [e])
  simp [hl, hl', hne, endK_ret, back, hsc]
end Go.Proofs.Ytjlkndkedknocaa
namespace Go.Proofs.Ytjlkndkedknocaa
open Go Go.Ai
attribute [local instance] Classical.propDecidable
noncomputable def arcW (n : Nat) (x : Nat → Nat → Int) (s : Nat → Int) (L : Int) : Int := if kindD n x s L ≠ 0 then 0 else arC (dgOf n x s L) + L
noncomputable def arlW (n : Nat) (x : Nat → Nat → Int) (s : Nat → Int) (L : Int) : List Int := if kindD n x s L ≠ 0 then [] else arL (dgOf n x s L)
noncomputable def relW (n : Nat) (x : Nat → Nat → Int) (s : Nat → Int) (L : Int) : List (List Int) := if kindD n x s L ≠ 0 then [] else relL (dgOf n x s L)
def ArcU (h0 : List O) (ws : List Int) (cnt e : Int) (o : Out) (st' : St) : Prop := ∃ v, o = .ret (.tuple #[v, .int .i64 cnt, .int .i64 e]) ∧ Sub h0 st'.h ∧ h0.length ≤ st'.fl ∧ Ints st'.h v ws
def OfU (h0 : List O) (A : List (List Int)) (cnt e : Int) (o : Out) (st' : St) : Prop := ∃ v, o = .ret (.tuple #[.agg #[.int .i64 cnt, v], .int .i64 e]) ∧ Sub h0 st'.h ∧ h0.length ≤ st'.fl ∧ Mat st'.h v A
theorem mat_nil (h : List O) : Mat h (.slice none 0 0) [] := ⟨none, 0, 0, 0, fun _ => undef, rfl, fun h => absurd h (by simp), fun i hi => absurd hi (by simp), by simp⟩
theorem arL_ints {G : Dg} (hG : GoodG G) {h : List O} {b : Nat} {el : TypeId} {ow : Option Nat} (hb : h[b]? = some (.cells (intsC (arL G)) el ow)) : Ints h (.slice (some ⟨b, 0, none⟩) (2 * G.n) (2 * G.n)) (arL G) := by
 have hl : (arL G).length = 2 * G.n := by unfold arL; rw [tabL_length]
 have hac := arC_le G
 have hsz := hG.size
 refine ⟨_, b, 0, 2 * G.n, by rw [hl], fun _ => rfl, fun i hi => by rw [rd_def, hb, Nat.zero_add]; exact intsC_get hi, fun i => ?_, by omega⟩
 by_cases hi : i < 2 * G.n
 ·have := arN_lt (G := G) (a := i) hi
  unfold arL
  rw [tabL_nth hi]
  constructor <;> omega
 ·rw [nth_ge (by omega)]; decide
variable {E : Env} (hE : OE E)
include hE
theorem archesU_ {h0 : List O} {a : Option Addr} {n c : Nat} {x : Nat → Nat → Int} {s : Nat → Int} {L : Int} (hx : CrossP h0 a n x s) :
  DC E 75 [dV a n c L] ⟨h0, h0.length⟩ (ArcU h0 (arlW n x s L) (arcW n x s L) (kindD n x s L)) := by
 refine (arches_ hE (c := c) (L := L) hx).imp fun o st' hq => ?_
 unfold ArcU arlW arcW
 rcases hq with ⟨h1, rfl, rfl⟩ | ⟨h1, b, rfl, z1, z2, z3⟩
 ·simp only [if_pos h1]
  exact ⟨_, rfl, Sub.refl _, Nat.le_refl _, ints_nil _⟩
 ·simp only [ne_eq, h1, not_true_eq_false, if_false]
  exact ⟨_, rfl, z1, z2, arL_ints (good_of (kind_zero h1).1) z3⟩
theorem ofU_ {h0 : List O} {a : Option Addr} {n c : Nat} {x : Nat → Nat → Int} {s : Nat → Int} {L : Int} (hx : CrossP h0 a n x s) :
  DC E 63 [dV a n c L] ⟨h0, h0.length⟩ (OfU h0 (relW n x s L) (arcW n x s L) (kindD n x s L)) := by
 refine (ofW_ hE (c := c) (L := L) hx).imp fun o st' hq => ?_
 unfold OfU relW arcW
 rcases hq with ⟨h1, rfl, z1, z2⟩ | ⟨h1, v, rfl, z1, z2, z3⟩
 ·simp only [if_pos h1]
  exact ⟨_, rfl, z1, z2, mat_nil _⟩
 ·simp only [ne_eq, h1, not_true_eq_false, if_false]
  exact ⟨_, rfl, z1, z2, z3.mat⟩
omit hE in
theorem law13 {E : Env} (hW : WE E) {h0 : List O} {a : Option Addr} {n c : Nat} {x : Nat → Nat → Int} {s : Nat → Int} {L k : Int} {vA : Value} {A : List (List Int)} (hx : CrossP h0 a n x s) (hA : MatP h0 vA A) (hrows : ∀ i, i < A.length → (nthR A i).length * 8 ≤ roomMax) :
  DR E 13 [dV a n c L, .int .i64 k, vA] ⟨h0, h0.length⟩ (.ret (.bool true)) ⟨h0, h0.length⟩ := by
 have hE := hW.oe
 refine hE.fn (body := rb13) rfl ?_
 unfold rb13
 obtain ⟨va, vb, vo, vc, vs, rfl, ha, hvr, hvl⟩ := mat_at hA.mat
 have hsc : (Out.ret (.bool true)).scalar = true := rfl
 obtain ⟨h1, hh1⟩ : ∃ H, H = h0 ++ [O.cells [.slice a n c, .int .i64 L] 24 (some 0)] := ⟨_, rfl⟩
 have s1 : Sub h0 h1 := by rw [hh1]; exact (Sub.refl _).app _
 have l1 : h1.length = h0.length + 1 := by rw [hh1]; simp
 have b1 : h1[h0.length]? = some (O.cells [.slice a n c, .int .i64 L] 24 (some 0)) := by rw [hh1, app_at0]; rfl
 have hsane := saneW_ hW (h0 := h1)
 have hj1 : joined ⟨h1, h0.length⟩ ⟨h1, h1.length⟩ = ⟨h1, h0.length⟩ := joined_mk _ _
 by_cases hn : 30 < n
 ·have hn' : 30 < (n : Int) := by omega
  simp [dV, ← hh1, rd_def, b1, hn, hn', DC_of hsane, hj1, endK_ret, back, hsc]
 ·have hn' : ¬ 30 < (n : Int) := by omega
  by_cases hA100 : 100 < A.length
  ·have hA100' : 100 < (A.length : Int) := by omega
   simp [dV, ← hh1, rd_def, b1, hn, hn', hA100, hA100', DC_of hsane, hj1, endK_ret, back, hsc]
  ·have hA100' : ¬ 100 < (A.length : Int) := by omega
   have hx1 := hx.sub s1
   have hm1 := meridianRU_ hE (c := c) (L := L) hx1 k
   have hl1 := longRU_ hE (c := c) (L := L) hx1 k
   obtain ⟨mm, hmm⟩ : ∃ mm, mm = merW n x s L k := ⟨_, rfl⟩
   obtain ⟨le, hle⟩ : ∃ le, le = lonE n x s L k := ⟨_, rfl⟩
   obtain ⟨lw, hlw⟩ : ∃ lw, lw = lonW n x s L k := ⟨_, rfl⟩
   obtain ⟨kd, hkd⟩ : ∃ kd, kd = kindD n x s L := ⟨_, rfl⟩
   obtain ⟨ac, hac⟩ : ∃ ac, ac = arcW n x s L := ⟨_, rfl⟩
   obtain ⟨al, hal⟩ : ∃ al, al = arlW n x s L := ⟨_, rfl⟩
   obtain ⟨rl, hrl⟩ : ∃ rl, rl = relW n x s L := ⟨_, rfl⟩
   rw [← hmm, ← hle] at hm1
   rw [← hlw, ← hle] at hl1
   simp only [dV] at hm1 hl1
   simp [dV, ← hh1, rd_def, b1, hn, hn', hA100, hA100', rdN_def, DC_of hm1, hj1]
   refine hl1.imp ?_
   rintro o ⟨h2, f2⟩ ⟨v2, rfl, s2, hf2, hI2⟩
   simp only at s2 hf2 hI2
   have b2 := s2 _ _ b1
   have hx2 := hx1.sub s2
   have hk2 := checkR_ hE (c := c) (L := L) hx2
   have hr2 := archesU_ hE (c := c) (L := L) hx2
   rw [← hkd] at hk2
   rw [← hkd, ← hac, ← hal] at hr2
   simp only [dV] at hk2 hr2
   have hj2 : joined ⟨h2, h0.length⟩ ⟨h2, h2.length⟩ = ⟨h2, h0.length⟩ := joined_mk _ _
   simp [joined_fl, hf2, rdN_def, b2, DC_of hk2, hj2]
   refine hr2.imp ?_
   rintro o ⟨h3, f3⟩ ⟨v3, rfl, s3, hf3, hI3⟩
   simp only at s3 hf3 hI3
   have b3 := s3 _ _ b2
   have hx3 := hx2.sub s3
   have ho3 := ofU_ hE (c := c) (L := L) hx3
   rw [← hkd, ← hac, ← hrl] at ho3
   simp only [dV] at ho3
   simp [joined_fl, hf3, rdN_def, b3]
   refine ho3.imp ?_
   rintro o ⟨h4, f4⟩ ⟨v4, rfl, s4, hf4, hM4⟩
   simp only at s4 hf4 hM4
   have b4 := s4 _ _ b3
   obtain ⟨Q, hQ⟩ : ∃ Q, Q = h4.length := ⟨_, rfl⟩
   obtain ⟨h5, hh5⟩ : ∃ H, H = h4 ++ [O.cells [.int .i64 ac, v4] 81 (some 0)] := ⟨_, rfl⟩
   have s5 : Sub h4 h5 := by rw [hh5]; exact (Sub.refl _).app _
   have p5 : h5[h4.length]? = some (O.cells [.int .i64 ac, v4] 81 (some 0)) := by rw [hh5, app_at0]; rfl
   have b5 := s5 _ _ b4
   have hx5 := (hx3.sub s4).sub s5
   have hm5 := meridianU_ hE (c := c) (L := L) hx5 k
   have hl5 := longitudeU_ hE hW.walk (c := c) (L := L) hx5 k
   rw [← hmm, ← hle] at hm5
   rw [← hlw, ← hle] at hl5
   simp only [dV] at hm5 hl5
   have hj5 : joined ⟨h5, h0.length⟩ ⟨h5, h5.length⟩ = ⟨h5, h0.length⟩ := joined_mk _ _
   have l4 : h0.length ≤ h4.length := Nat.le_trans (by omega) ((Sub.trans s2 s3).trans s4).len
   have hmin : min h0.length h4.length = h0.length := by omega
   have hmQ : min h0.length Q = h0.length := by omega
   obtain ⟨va4, vb4, vo4, vc4, vs4, hv4, _⟩ := mat_at hM4
   have one4 : one1 v4 = true := by rw [hv4]; rfl
   have cs4 : v4.cells = #[v4] := by rw [hv4]; rfl
   simp [joined_fl, hf4, wrN_at0, set_at0, one4, cs4, ↓← hh5, hmin, ↓b5, rdN_def, DC_of hm5, hj5]
   refine hl5.imp ?_
   rintro o ⟨h6, f6⟩ ⟨v6, rfl, s6, hf6, hI6⟩
   simp only at s6 hf6 hI6
   have b6 := s6 _ _ b5
   have p6 := s6 _ _ p5
   have s36 : Sub h3 h6 := (s4.trans s5).trans s6
   have hx6 := hx5.sub s6
   have s06 : Sub h0 h6 := ((s1.trans s2).trans s3).trans s36
   have q76 := sameI_ hE hI6 (hI2.sub (s3.trans s36))
   have q67 := checkW_ hE (c := c) (L := L) hx6 (hA.mat.sub s06) hrows
   have q77 := checkQ_ hE (c := c) (L := L) hx6 (hA.sub s06)
   have q56 := saneW_ hW (h0 := h6)
   rw [decide_eq_true rfl] at q76
   obtain ⟨ck, hck⟩ : ∃ ck, ck = (if kindD n x s L ≠ 0 then kindD n x s L else checkD (dgOf n x s L) A) := ⟨_, rfl⟩
   rw [← hck] at q67 q77
   simp only [dV] at q67 q77
   have hj6 : joined ⟨h6, h0.length⟩ ⟨h6, h6.length⟩ = ⟨h6, h0.length⟩ := joined_mk _ _
   by_cases hkz : kd = 0
   ·subst hkz
    simp [joined_fl, hf6, DC_of q76, ↓b6, rdN_def, DC_of q67, DC_of q77, hj6]
    have hk0 : kindD n x s L = 0 := hkd.symm
    have hS := (kind_zero hk0).1
    have hG := good_of hS
    have har := archesR_ hE (c := c) (L := L) hx6 hS
    have hal1 : al = arL (dgOf n x s L) := by rw [hal]; unfold arlW; rw [if_neg (by simp [hk0])]
    have hac1 : ac = arC (dgOf n x s L) + L := by rw [hac]; unfold arcW; rw [if_neg (by simp [hk0])]
    have hrl1 : rl = relL (dgOf n x s L) := by rw [hrl]; unfold relW; rw [if_neg (by simp [hk0])]
    rw [← hac1, ← hal1] at har
    simp only [dV] at har
    refine har.imp ?_
    rintro o ⟨h7, f7⟩ ⟨b, rfl, s7, hf7, _, hb7⟩
    simp only at s7 hf7 hb7
    have b7 := s7 _ _ b6
    have p7 := s7 _ _ p6
    have hx7 := hx6.sub s7
    have hpr := presR_ hE (c := c) (L := L) hx7 hS
    rw [← hac1, ← hrl1] at hpr
    simp only [dV] at hpr
    simp [joined_fl, hf7, ↓b7, rdN_def]
    refine hpr.imp ?_
    rintro o ⟨h8, f8⟩ ⟨v8, rfl, s8, hf8, hM8⟩
    simp only at s8 hf8 hM8
    obtain ⟨h9, hh9⟩ : ∃ H, H = h8 ++ [O.cells [.int .i64 ac, v8] 81 (some 0)] := ⟨_, rfl⟩
    have s9 : Sub h8 h9 := by rw [hh9]; exact (Sub.refl _).app _
    obtain ⟨P, hP⟩ : ∃ P, P = h8.length := ⟨_, rfl⟩
    have c9 : h9[h8.length]? = some (O.cells [.int .i64 ac, v8] 81 (some 0)) := by rw [hh9, app_at0]; rfl
    have p9 := s9 _ _ (s8 _ _ p7)
    have s69 : Sub h6 h9 := (s7.trans s8).trans s9
    obtain ⟨va8, vb8, vo8, vc8, vs8, hv8, _⟩ := mat_at hM8.mat
    have one8 : one1 v8 = true := by rw [hv8]; rfl
    have cs8 : v8.cells = #[v8] := by rw [hv8]; rfl
    have hb9 := s9 _ _ (s8 _ _ hb7)
    have hI9 := arL_ints hG (h := h9) (b := b) (by rw [← hal1]; exact hb9)
    rw [← hal1] at hI9
    have q76' := sameI_ hE (hI3.sub (s36.trans s69)) hI9
    have q79 := sameRels_ hE (hM4.sub ((s5.trans s6).trans s69)) (hM8.mat.sub s9)
    rw [decide_eq_true rfl] at q76' q79
    have hGn : (dgOf n x s L).n = n := rfl
    rw [hGn] at q76'
    have q56' := saneW_ hW (h0 := h9)
    have hj9 : joined ⟨h9, h0.length⟩ ⟨h9, h9.length⟩ = ⟨h9, h0.length⟩ := joined_mk _ _
    have l8 : h0.length ≤ h8.length := Nat.le_trans s06.len (s7.trans s8).len
    have hmin8 : min h0.length h8.length = h0.length := by omega
    simp [joined_fl, hf8, wrN_at0, set_at0, one8, cs8, ↓← hh9, hmin8, DC_of q56', hj9, ↓p9, rd_def]
    simp [↓c9, ↓p9, rd_def, DC_of q76', DC_of q79, endK_ret, back, hsc, hj9]
   ·have hal0 : al = [] := by rw [hal]; unfold arlW; rw [if_pos (by rw [← hkd]; exact hkz)]
    have hac0 : ac = 0 := by rw [hac]; unfold arcW; rw [if_pos (by rw [← hkd]; exact hkz)]
    have hrl0 : rl = [] := by rw [hrl]; unfold relW; rw [if_pos (by rw [← hkd]; exact hkz)]
    obtain ⟨va3, vb3, vo3, vc3, hv3, _⟩ := ints_at hI3
    obtain ⟨va4, vb4, vo4, vc4, vs4, hv4, _⟩ := mat_at hM4
    rw [hal0] at hv3
    rw [hrl0] at hv4
    rw [hac0, hv4] at p6
    simp at hv3 p6
    simp [joined_fl, hf6, DC_of q76, ↓b6, rdN_def, DC_of q67, DC_of q77, hj6, hkz, DC_of q56, hv3, hac0, ↓p6, rd_def, endK_ret, back, hsc]
end Go.Proofs.Ytjlkndkedknocaa
