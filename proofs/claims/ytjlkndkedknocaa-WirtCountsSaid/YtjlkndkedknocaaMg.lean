/- Texts that were built one by one: Wc3, Wd3, Wd4, Wq1, Wo0, Ra1, Ra2, Ra3, Ra4, Ra5, Ra6, Ra7, Ra8, Ra9, Ra10, Ra11, RaC, Wo1, AiO, Wo2. -/
import Derived.Test.YtjlkndkedknocaaMf
import Derived.Test.YtjlkndkedknocaaMe
import Derived.KernelRfl
import Derived.Test.YtjlkndkedknocaaMd
set_option linter.unusedSimpArgs false
set_option linter.unusedVariables false
namespace Go.Ai
theorem Sub.rdO {h h' : List O} (hs : Sub h h') {b i : Nat} {v : Value} (hr : rdO h[b]? i = some v) : rdO h'[b]? i = some v := by
 rw [← rd_def] at hr ⊢
 exact hs.rd hr
end Go.Ai
namespace Go.Proofs.Ytjlkndkedknocaa
open Go Go.Ai
attribute [local instance] Classical.propDecidable
def InvI (h : List O) (lo n : Nat) (A : List (List Int)) (i : Nat) (vs : List Value) : Prop :=
 ∀ q, q < i → ∃ b, vs[q]? = some (.slice (some ⟨b, 0, none⟩) n n) ∧ lo ≤ b ∧ h[b]? = some (.cells (intsC (invL (nthR A q))) 3 (some 0))
theorem InvI.mat {h : List O} {lo n i : Nat} {A : List (List Int)} {vs : List Value} {uv : Value} (hR : InvI h lo n A i vs) (hu : OwnS h lo uv i vs 34 1) (hi : A.length = i) (hrow : ∀ q, q < i → (nthR A q).length = n ∧ PermL n (nthR A q)) (hn : n ≤ 1000 ∧ i ≤ 1000) : Mat h uv (invA A) := by
 have hlA : (invA A).length = i := by rw [invA_length, hi]
 rcases hu.2 with ⟨h1, h2⟩ | ⟨b, su, h1, h2, h3, _⟩
 ·have : invA A = [] := List.length_eq_zero_iff.1 (by omega)
  rw [h1, this]
  exact ⟨none, 0, 0, 0, fun _ => undef, rfl, fun h => absurd h (by simp), fun i hi => absurd hi (by simp), by simp⟩
 ·refine ⟨some ⟨b, 0, none⟩, b, 0, i, fun q => (vs[q]?).getD undef, by rw [h1, hlA], fun _ => rfl, fun q hq => ?_, by omega⟩
  obtain ⟨b', r1, r2, r3⟩ := hR q (by omega)
  refine ⟨by rw [rd_def, h3]; simp [r1], ?_⟩
  rw [invA_at (by omega)]
  simp only [r1, Option.getD_some]
  obtain ⟨k1, k2⟩ := hrow q (by omega)
  have hinv := k2.inv
  refine ⟨some ⟨b', 0, none⟩, b', 0, n, by rw [hinv.len], fun _ => rfl, fun j hj => ?_, fun j => ?_, by rw [hinv.len]; omega⟩
  ·rw [rd_def, r3]
   simp only [rdO_cells, Nat.zero_add]
   exact intsC_get hj
  ·by_cases hj : j < (invL (nthR A q)).length
   ·have := hinv.rng j hj
    constructor <;> omega
   ·rw [nth_ge (by omega)]; constructor <;> omega
variable {E : Env} (hE : OE E)
include hE
end Go.Proofs.Ytjlkndkedknocaa
namespace Go.Proofs.Ytjlkndkedknocaa
open Go Go.Ai
attribute [local instance] Classical.propDecidable
theorem lastW_lt {w : List Int} {gens : Nat} (h : LetOk gens w) : lastW w < gens + 1 := by
 have key : ∀ i, i ≤ w.length → lastW (w.take i) ≤ gens := by
  intro i
  induction i with
  | zero => intro _; simp [lastW]
  | succ i ih =>
   intro hi
   have h1 := ih (by omega)
   have h2 := h i (by omega)
   rw [lastW_take (by omega)]
   omega
 have := key w.length (Nat.le_refl _)
 rw [List.take_length] at this
 omega
theorem RdI.nil {hb h : List O} {lo Rb gens : Nat} (h1 : h[Rb]? = some (.cells (List.replicate (gens + 1) (.slice none 0 0)) 48 (some 0))) (h2 : Rb < lo) (h3 : lo ≤ h.length) : RdI hb h lo Rb gens [] (List.replicate (gens + 1) (.slice none 0 0)) := by
 refine ⟨h1, by simp, h2, h3, fun j hj => ⟨.slice none 0 0, by rw [List.getElem?_replicate, if_pos hj], [], OwnS.nil _ _ _ _, fun q hq => by simp [readyL] at hq⟩, fun j j' b n c n' c' _ e _ => ?_⟩
 rw [List.getElem?_replicate] at e
 split at e
 ·cases e
 ·cases e
variable {E : Env} (hE : OE E)
include hE
theorem assign1_ (hKp : SumsKept E) {hB hK : List O} {k pO pN pG n gens : Nat} {vr : Value} {frL : Fr} {rels : List (List Int)} (hn : 1 ≤ n ∧ n ≤ 6) (hgens : gens ≤ 600) (hrels : rels.length ≤ 100000)
  (hlet : ∀ r ∈ rels, LetOk gens r) (hsB : Sub hB hK) (hBl : hB.length ≤ pO) (hM : Mat hB vr rels)
  (hk : hK[k]? = some (.loop false 43 frL [39] (lcA 57 0) (lcB 57 0))) (g9 : get frL 9 = .pointer (some ⟨pO, 0, none⟩))
  (hO : hK[pO]? = some (.cells [.int .i64 0] 3 (some 0))) (hN : hK[pN]? = some (.cells [.int .i64 n] 3 (some 0))) (hG : hK[pG]? = some (.cells [.int .i64 gens, vr] 81 (some 0)))
  (ho : pO < pN ∧ pO < pG ∧ pO < k) (hcnt : (permL n).length ^ gens ≤ 10000000000) :
  DC E 188 [tok k, .pointer (some ⟨pN, 0, none⟩), .pointer (some ⟨pG, 0, none⟩)] ⟨hK, hK.length⟩ fun o st' => (∃ v, o = .ret v) ∧ pO ≤ st'.fl ∧ (∀ (b : Nat) (o : O), hK[b]? = some o → b ≠ pO → st'.h[b]? = some o) ∧ AtB st'.h pO (.cells [.int .i64 (cntV n (permL n) rels gens [])] 3 (some 0)) := by
 refine hE.fnC (body := rb188) rfl ?_
 unfold rb188
 have lO := (List.getElem?_eq_some_iff.1 hO).1
 have lk := (List.getElem?_eq_some_iff.1 hk).1
 have lN := (List.getElem?_eq_some_iff.1 hN).1
 have lG := (List.getElem?_eq_some_iff.1 hG).1
 obtain ⟨h1, hh1⟩ : ∃ H, H = hK ++ [O.cells [tok k] 219 (some 0)] := ⟨_, rfl⟩
 have l1 : h1.length = hK.length + 1 := by rw [hh1]; simp
 have hN1 : h1[pN]? = some (.cells [.int .i64 n] 3 (some 0)) := by rw [hh1]; exact app_of hN _
 have htk : (tok k).cells = #[tok k] := rfl
 have htk1 : one1 (tok k) = true := rfl
 simp [htk, ← hh1, rd_def, hN1]
 refine (permutations_ hE hn).imp ?_
 rintro o ⟨h2, f2⟩ ⟨v, rfl, s2, hf2, hP⟩
 simp only at s2 hf2 hP
 have hjo : joined ⟨h1, hK.length⟩ ⟨h2, f2⟩ = ⟨h2, hK.length⟩ := joined_fl hf2
 obtain ⟨aa, rfl, hrows⟩ := hP.look
 have s12 : Sub hK h2 := fun b o hb => s2 _ _ (by rw [hh1]; exact app_of hb _)
 have l2 : h1.length ≤ h2.length := by
  have h0 : h1[hK.length]? = some (O.cells [tok k] 219 (some 0)) := by rw [hh1, app_at0]; rfl
  have := (List.getElem?_eq_some_iff.1 (s2 _ _ h0)).1
  omega
 have hG2 : ∀ l, (h2 ++ l)[pG]? = some (.cells [.int .i64 gens, vr] 81 (some 0)) := fun l => app_of (s12 _ _ hG) l
 have hwg : IntKind.i64.wrap ((gens : Int) + 1) = (gens : Int) + 1 := by rw [w64_id] <;> omega
 have e1 : ((gens : Int) + 1) * 24 ≤ 140737488355328 := by omega
 have e2 : (gens : Int) + 1 < 4611686018427387904 := by omega
 have e3 : (0 : Int) ≤ (gens : Int) + 1 := by omega
 have e4 : ((gens : Int) + 1).toNat = gens + 1 := by omega
 have hrep : rep (gens + 1) [Value.slice none 0 0] = List.replicate (gens + 1) (.slice none 0 0) := by simp [rep]
 obtain ⟨va, vb, vo, vc, vs, hvr, hva, hvs⟩ := hM.at
 subst hvr
 simp [hjo, bit, wrN_at0, set_at0, rd_def, hG2, hwg, e1, e2, e3, e4, hrep, wrN_at, set_at, List.append_assoc]
 obtain ⟨hQ, hhQ⟩ : ∃ H, H = h2 ++ [O.cells [.slice aa (permL n).length (permL n).length] 48 (some 0), O.cells (List.replicate (gens + 1) (.slice none 0 0)) 48 (some 0), O.cells [.slice (some ⟨h2.length + 1, 0, none⟩) (gens + 1) (gens + 1)] 129 (some 0)] := ⟨_, rfl⟩
 rw [← hhQ]
 have lQ : hQ.length = h2.length + 3 := by rw [hhQ]; simp
 have q0 : hQ[h2.length]? = some (O.cells [.slice aa (permL n).length (permL n).length] 48 (some 0)) := by rw [hhQ, app_at0]; rfl
 have q1 : hQ[h2.length + 1]? = some (O.cells (List.replicate (gens + 1) (.slice none 0 0)) 48 (some 0)) := by rw [hhQ, app_at]; rfl
 have q2 : hQ[h2.length + 2]? = some (O.cells [.slice (some ⟨h2.length + 1, 0, none⟩) (gens + 1) (gens + 1)] 129 (some 0)) := by rw [hhQ, app_at]; rfl
 have s2Q : Sub h2 hQ := by rw [hhQ]; exact (Sub.refl _).app _
 have sBQ : Sub hB hQ := fun b o hb => s2Q _ _ (s12 _ _ (hsB _ _ hb))
 have hlen : rels.length < 2 ^ 62 := by omega
 obtain ⟨Rb, hRb⟩ : ∃ Rb, Rb = h2.length + 1 := ⟨_, rfl⟩
 obtain ⟨pA, hpA⟩ : ∃ pA, pA = h2.length := ⟨_, rfl⟩
 obtain ⟨pR, hpR⟩ : ∃ pR, pR = h2.length + 2 := ⟨_, rfl⟩
 have hmn : min hK.length h2.length = hK.length := by omega
 rw [hmn, ← hRb, ← hpR, ← hpA]
 rw [← hRb] at q1 q2
 rw [← hpR] at q2
 rw [← hpA] at q0
 refine DW_loop (fun kk fr st => ∃ (i : Nat) (h : List O) (rv : List Value), i + kk = rels.length ∧ st = ⟨h, hK.length⟩ ∧ RdI hB h hQ.length Rb gens (rels.take i) rv ∧ (∀ (b : Nat) (o : O), b ≠ Rb → hQ[b]? = some o → h[b]? = some o) ∧
  get fr 0 = tok k ∧ get fr 1 = .pointer (some ⟨pN, 0, none⟩) ∧ get fr 2 = .pointer (some ⟨pG, 0, none⟩) ∧ get fr 3 = .pointer (some ⟨hK.length, 0, none⟩) ∧ get fr 4 = .pointer (some ⟨pA, 0, none⟩) ∧ get fr 5 = .pointer (some ⟨pR, 0, none⟩) ∧ get fr 21 = .slice va rels.length vc ∧ get fr 22 = .int .i64 rels.length ∧ get fr 23 = .int .i64 i) ?_ (k := rels.length) ?_
 ·rintro kk fr st ⟨i, h, rv, hik, rfl, hRd, hkeep, g0, g1, g2, g3, g4, g5, g21, g22, g23⟩
  have sBh : Sub hB h := fun b o hb => by
   have := (List.getElem?_eq_some_iff.1 hb).1
   exact hkeep _ _ (by omega) (sBQ _ _ hb)
  by_cases hi : i < rels.length
  ·have hwi : IntKind.i64.wrap ((i : Int) + 1) = (i : Int) + 1 := by rw [w64_id] <;> omega
   obtain rfl := hva (by omega)
   obtain ⟨r1, r2⟩ := hvs i hi
   obtain ⟨wa, wb, wo, wc, hwv, hwa, hwr⟩ := r2.at
   have hwl : (nthR rels i).length < 2 ^ 62 := by obtain ⟨_, _, _, _, _, _, _, _, h5⟩ := r2; exact h5
   have r1' := Ai.Sub.rdO sBh r1
   have hLet := hlet _ (nthR_mem hi)
   obtain ⟨w, hw⟩ : ∃ w, w = nthR rels i := ⟨_, rfl⟩
   rw [← hw] at hwv hwa hwr hwl hLet r2
   simp [g0, g1, g2, g3, g4, g5, g21, g22, g23, hi, rd_def, r1', hwv]
   refine DW_loop (fun kk' fr st => ∃ (j : Nat), j + kk' = w.length ∧ st = ⟨h, hK.length⟩ ∧
    get fr 0 = tok k ∧ get fr 1 = .pointer (some ⟨pN, 0, none⟩) ∧ get fr 2 = .pointer (some ⟨pG, 0, none⟩) ∧ get fr 3 = .pointer (some ⟨hK.length, 0, none⟩) ∧ get fr 4 = .pointer (some ⟨pA, 0, none⟩) ∧ get fr 5 = .pointer (some ⟨pR, 0, none⟩) ∧ get fr 21 = .slice (some ⟨vb, vo, none⟩) rels.length vc ∧ get fr 22 = .int .i64 rels.length ∧ get fr 23 = .int .i64 i ∧
    get fr 7 = .slice wa w.length wc ∧ get fr 8 = .int .i64 (lastW (w.take j)) ∧ get fr 27 = .slice wa w.length wc ∧ get fr 28 = .int .i64 w.length ∧ get fr 29 = .int .i64 j) ?_ (k := w.length) ?_
   ·clear g0 g1 g2 g3 g4 g5 g21 g22 g23
    rintro kk' fr st ⟨j, hjk, rfl, g0, g1, g2, g3, g4, g5, g21, g22, g23, g7, g8, g27, g28, g29⟩
    by_cases hj : j < w.length
    ·have hwj : IntKind.i64.wrap ((j : Int) + 1) = (j : Int) + 1 := by rw [w64_id] <;> omega
     obtain rfl := hwa (by omega)
     have hlt := hLet j hj
     have hr' := Ai.Sub.rdO sBh (hwr j hj)
     have hwn : IntKind.i64.wrap (-nth w j) = -nth w j := by rw [w64_id] <;> omega
     have hmx : maxminV true [Value.int .i64 (lastW (w.take j)), .int .i64 (nth w j), .int .i64 (-nth w j)] = some (.int .i64 (lastW (w.take (j + 1)))) := by
      rw [lastW_take hj]
      simp only [maxminV, maxmin2, if_true]
      congr 2
      split <;> split <;> omega
     simp [g0, g1, g2, g3, g4, g5, g21, g22, g23, g7, g8, g27, g28, g29, hj, rd_def, hr', hwn, hmx, hwj]
     exact ⟨kk' - 1, by omega, j + 1, by omega, rfl, by omega⟩
    ·have hjw : j = w.length := by omega
     subst hjw
     rw [List.take_length] at g8
     have hlw := lastW_lt hLet
     have q2h := hkeep _ _ (by omega) q2
     have r2v := r2
     rw [hwv] at r2v
     obtain ⟨v, a1, a2, b', n', H4, f4, a3, a4, a5, a6, a7, a8⟩ := RdI.add (fl := hK.length) hRd r2v (by rfl) hlw (by rw [List.length_take]; omega)
     have hRbh := hRd.at_
     have hle : (lastW w : Int) < (gens : Int) + 1 := by omega
     simp [g0, g1, g2, g3, g4, g5, g21, g22, g23, g7, g8, g27, g28, g29, rd_def, q2h, hlw, hle, hRbh, a1, a3]
     have hbv : ∀ x ∈ blk v, ¬ x = Rb ∧ ¬ x = pR := fun x hx => by
      rcases a2 with rfl | ⟨b, n1, rfl, hb1⟩
      ·simp [blk] at hx
      ·simp [blk] at hx
       omega
     refine ⟨⟨fun _ x hx => (hbv x hx).1, fun _ x hx => (hbv x hx).2, fun x hx => (hbv x hx).2⟩, ?_⟩
     have hRb4 := a6 Rb _ (by omega) hRbh
     obtain rfl : f4 = hK.length := by omega
     have hmR : min hK.length Rb = hK.length := by omega
     have hrvl := hRd.len
     have hlwr : lastW w + 1 ≤ rv.length := by omega
     have hlw' : lastW w ≤ gens := by omega
     simp [wrN_def, hRb4, hlw', hrvl, hmR, g0, g1, g2, g3, g4, g5, g21, g22, g23, hwi]
     have htake : rels.take (i + 1) = rels.take i ++ [w] := by rw [List.take_add_one, List.getElem?_eq_getElem hi, hw]; simp [nthR, hi]
     refine ⟨⟨fun h => absurd h (by decide), by decide, fun h => absurd h (by decide)⟩, kk - 1, by omega, i + 1, by omega, ⟨_, by rw [htake]; exact a8⟩, fun b o hb1 hb2 => set_ne (a6 b o ?_ (hkeep b o hb1 hb2)) hb1, by omega⟩
     exact (List.getElem?_eq_some_iff.1 hb2).1
   ·exact ⟨0, by omega, rfl, by simp [lastW, g0, g1, g2, g3, g4, g5, g21, g22, g23]⟩
  ·have hil : i = rels.length := by omega
   subst hil
   rw [List.take_length] at hRd
   have q0h := hkeep _ _ (by omega) q0
   have q2h := hkeep _ _ (by omega) q2
   have hGh := hkeep _ _ (by omega) (s2Q _ _ (s12 _ _ hG))
   have hNh := hkeep _ _ (by omega) (s2Q _ _ (s12 _ _ hN))
   have hOh := hkeep _ _ (by omega) (s2Q _ _ (s12 _ _ hO))
   have hkh := hkeep _ _ (by omega) (s2Q _ _ (s12 _ _ hk))
   have hYh := hkeep hK.length _ (by omega) (s2Q _ _ (s2 _ _ (show h1[hK.length]? = some (O.cells [tok k] 219 (some 0)) by rw [hh1, app_at0]; rfl)))
   have f1 : (gens : Int) * 24 ≤ 140737488355328 := by omega
   have f3 : (gens : Int) < 4611686018427387904 := by omega
   have hrep2 : rep gens [Value.slice none 0 0] = List.replicate gens (.slice none 0 0) := by simp [rep]
   have hGa : ∀ l, (h ++ l)[pG]? = _ := fun l => app_of hGh l
   have lh := hRd.lo_
   obtain ⟨vV, hvV⟩ : ∃ vV, vV = visV2 (h.length + 2) pG hK.length pA (h.length + 3) pR pN (h.length + 4) := ⟨_, rfl⟩
   have hvV' := hvV
   unfold visV2 at hvV
   have hb1 : one1 vV = true := by rw [hvV]; rfl
   have hb2 : vV.cells = #[vV] := by rw [hvV]; rfl
   simp [g0, g1, g2, g3, g4, g5, g21, g22, g23, rd_def, hGh, hGa, f1, f3, hrep2, wrN_at0, wrN_at, set_at, set_at0, List.append_assoc, ← hvV, hb1, hb2]
   refine ⟨⟨fun _ => by omega, fun _ => by omega⟩, ⟨fun _ => by omega, fun _ => by omega⟩, ?_⟩
   obtain ⟨hV, hhV⟩ : ∃ H, H = h ++ [O.cells (List.replicate gens (.slice none 0 0)) 34 (some 0), O.cells (List.replicate gens (.slice none 0 0)) 34 (some 0), O.cells [.slice (some ⟨h.length, 0, none⟩) 0 gens] 48 (some 0), O.cells [.slice (some ⟨h.length + 1, 0, none⟩) 0 gens] 48 (some 0), O.cells [vV] 25 (some 0)] := ⟨_, rfl⟩
   have lV : hV.length = h.length + 5 := by rw [hhV]; simp
   have hVa : ∀ (b : Nat) (o : O), h[b]? = some o → hV[b]? = some o := fun b o hb => by rw [hhV]; exact app_of hb _
   have v0 : hV[h.length]? = some (O.cells (List.replicate gens (.slice none 0 0)) 34 (some 0)) := by rw [hhV, app_at0]; rfl
   have v1 : hV[h.length + 1]? = some (O.cells (List.replicate gens (.slice none 0 0)) 34 (some 0)) := by rw [hhV, app_at]; rfl
   have v2 : hV[h.length + 2]? = some (O.cells [.slice (some ⟨h.length, 0, none⟩) 0 gens] 48 (some 0)) := by rw [hhV, app_at]; rfl
   have v3 : hV[h.length + 3]? = some (O.cells [.slice (some ⟨h.length + 1, 0, none⟩) 0 gens] 48 (some 0)) := by rw [hhV, app_at]; rfl
   have v4 : hV[h.length + 4]? = some (O.cells [vV] 25 (some 0)) := by rw [hhV, app_at]; rfl
   rw [← hhV]
   have hmn2 : min hK.length (h.length + 2) = hK.length := by omega
   rw [hmn2]
   have htgt : target vV [] = some (189, [.pointer (some ⟨h.length + 2, 0, none⟩), .pointer (some ⟨pG, 0, none⟩), .pointer (some ⟨hK.length, 0, none⟩), .pointer (some ⟨pA, 0, none⟩), .pointer (some ⟨h.length + 3, 0, none⟩), .pointer (some ⟨pR, 0, none⟩), .pointer (some ⟨pN, 0, none⟩), .pointer (some ⟨h.length + 4, 0, none⟩)]) := by rw [hvV]; rfl
   have hPl := permL_le hn.2
   have hle3 : ∀ r ∈ rels, LetOk (lastW r) r := fun r hr j hj => by
    have h1 := hlet r hr j hj
    have h2 := lastW_le (nth_mem hj)
    exact ⟨h1.1, by omega, by omega⟩
   have hfix : ∀ h', SubX (h.length + 2) (h.length + 3) h.length (h.length + 1) pO hV h' → hV.length ≤ h'.length → FixI E h' aa pG hK.length pA pR pN (h.length + 4) pO k n gens vV rels := fun h' hs hl => by
    have K : ∀ (b : Nat) (o : O), h[b]? = some o → b ≠ pO → h'[b]? = some o := fun b o hb hn => by
     have := (List.getElem?_eq_some_iff.1 hb).1
     exact hs b o (hVa _ _ hb) (by omega) (by omega) (by omega) (by omega) hn
    refine ⟨⟨_, K _ _ hGh (by omega)⟩, K _ _ hYh (by omega), K _ _ q0h (by omega), fun q hq => ?_, ⟨Rb, rv, K _ _ q2h (by omega), K _ _ hRd.at_ (by omega), fun j hj => ?_⟩, K _ _ hNh (by omega), hs _ _ v4 (by omega) (by omega) (by omega) (by omega) (by omega), fun v c hc1 hc2 => round57 hE (K _ _ hkh (by omega)) g9 hc1 hc2⟩
    ·obtain ⟨b, b', z1, z2, z3, z4, z5⟩ := hrows q hq
     refine ⟨b, b', z1, ?_, by omega, ?_⟩
     ·cases hb : h2[b]? with
      | none => rw [hb] at z3; simp [rdO] at z3
      | some o =>
       have := (List.getElem?_eq_some_iff.1 hb).1
       rw [K _ _ (hkeep _ _ (by omega) (s2Q _ _ hb)) (by omega), ← hb]
       exact z3
     ·have := (List.getElem?_eq_some_iff.1 z5).1
      exact K _ _ (hkeep _ _ (by omega) (s2Q _ _ z5)) (by omega)
    ·obtain ⟨v, z1, z2⟩ := hRd.each j hj
     refine ⟨v, z1, (z2.keep (h' := h') fun b n c _ hb o ho => K _ _ ho (by omega)).mat (fun w xs hx => ?_) ?_⟩
     ·exact hx.sub fun b o hb => K _ _ (sBh _ _ hb) (by have := (List.getElem?_eq_some_iff.1 hb).1; omega)
     ·have := readyL_le rels j
      omega
   have hD0 : DynI hV (h.length + 2) (h.length + 3) h.length (h.length + 1) pO n gens (([] : List (List Int)).length) 0 [] := ⟨v2, v3, ⟨_, v0, by simp, fun q hq => by simp at hq⟩, ⟨_, v1, by simp, fun q hq => by simp [invA] at hq⟩, hVa _ _ hOh⟩
   have hvis := visit2_ (hV := hV) hE hn hgens (fun q hq => permL_perm hq) hle3 (by omega) (hvV' ▸ hfix) (base := pO) ⟨by omega, by omega, by omega, by omega, by omega, by omega⟩ ⟨by omega, by omega, by omega, by omega, by omega, by omega⟩ (by omega) (by omega) (by omega) (by omega) (by omega) (by omega) (by omega) (by omega) (by omega) (by omega) (by omega)
    gens (im := []) (by simp) (fun q hq => by simp at hq) (SubX.refl _ _ _ _ _ _) (Nat.le_refl _) hD0 (by omega) (by simpa using (show ((permL n).length ^ gens : Nat) ≤ (10000000000 : Int) by omega))
   simp [htgt]
   refine (DC.kept hKp hvis).imp ?_
   rintro o ⟨h3, f3⟩ ⟨⟨rfl, w1, w2, w3, w4, w5⟩, w6⟩
   simp only at w1 w2 w3 w4 w5
   have hjo3 : joined ⟨hV, hK.length⟩ ⟨h3, f3⟩ = ⟨h3, min hK.length f3⟩ := by simp only [joined]; rw [if_pos w2]
   simp [hjo3, bit, endK_normal]
   unfold pairQ back
   have hw5 := w5.o
   simp only [Int.zero_add] at hw5
   split
   ·rename_i hc
    simp at hc
    have := w6.same pO (by simp only; omega) (by simp only; omega)
    simp only at this
    rw [hw5, hVa _ _ hOh] at this
    simp at this
    refine ⟨⟨_, rfl⟩, by simp only; omega, fun b o hb _ => hb, ?_⟩
    rw [this]
    exact hO
   ·exact ⟨⟨_, rfl⟩, by simp only; omega, fun b o hb hn => by
     have := (List.getElem?_eq_some_iff.1 hb).1
     exact w4 b o (hVa _ _ (hkeep _ _ (by omega) (s2Q _ _ (s12 _ _ hb)))) (by omega) (by omega) (by omega) (by omega) hn, hw5⟩
 ·refine ⟨0, hQ, _, by omega, rfl, RdI.nil q1 (by omega) (by omega), fun b o _ hb => hb, ?_⟩
  simp
end Go.Proofs.Ytjlkndkedknocaa
namespace Go.Proofs.Ytjlkndkedknocaa
open Go Go.Ai
attribute [local instance] Classical.propDecidable
def FewA (P g : Nat) : Prop := ∀ i, i < g → P ^ (i + 1) ≤ 2000000
noncomputable def genN (G : Dg) : Nat := arC G + G.L.toNat
noncomputable def cntD (G : Dg) (k : Nat) : Nat := cntV k (permL k) (relL G) (genN G) []
noncomputable def countA (n : Nat) (x : Nat → Nat → Int) (s : Nat → Int) (L k : Int) : Int × Int :=
 if kindD n x s L ≠ 0 then (0, kindD n x s L) else if ¬ (1 ≤ k ∧ k ≤ 6) then (0, 1) else if ¬ FewA (permL k.toNat).length (genN (dgOf n x s L)) then (0, 2) else (cntD (dgOf n x s L) k.toNat, 0)
variable {E : Env} (hE : OE E)
include hE
theorem assignments_ {h : List O} {gens n : Nat} {v : Value} (h1 : one1 v = true) :
  DR E 133 [.agg #[.int .i64 gens, v], .int .i64 n] ⟨h, h.length⟩ (.ret (.func (.func 188) #[] #[.pointer (some ⟨h.length + 1, 0, none⟩), .pointer (some ⟨h.length, 0, none⟩)])) ⟨h ++ [.cells [.int .i64 gens, v] 81 (some 0), .cells [.int .i64 n] 3 (some 0)], h.length⟩ := by
 refine hE.fn (body := rb133) rfl ?_
 unfold rb133
 have hs : (Out.ret (.func (.func 188) #[] #[.pointer (some ⟨h.length + 1, 0, none⟩), .pointer (some ⟨h.length, 0, none⟩)])).scalar = false := rfl
 simp [List.append_assoc, endK_ret, back, hs]
theorem countW_ (hKp : SumsKept E) {h0 : List O} {a : Option Addr} {n c : Nat} {x : Nat → Nat → Int} {s : Nat → Int} {L k : Int} (hx : CrossP h0 a n x s) :
  DR E 57 [dV a n c L, .int .i64 k] ⟨h0, h0.length⟩ (.ret (.tuple #[.int .i64 (countA n x s L k).1, .int .i64 (countA n x s L k).2])) ⟨h0, h0.length⟩ := by
 refine hE.fn (body := rb57) rfl ?_
 unfold rb57
 have hx1 : CrossP (h0 ++ [O.cells [.slice a n c, .int .i64 L] 24 (some 0)]) a n x s := hx.ext (Ext.snoc _ _)
 have h1 := check_ hE (c := c) (L := L) hx1
 simp [dV] at h1
 have hsc : ∀ y z : Int, (Out.ret (.tuple #[.int .i64 y, .int .i64 z])).scalar = true := fun _ _ => rfl
 by_cases hk : kindD n x s L = 0
 ·by_cases hk6 : 1 ≤ k ∧ k ≤ 6
  ·obtain ⟨m, rfl⟩ : ∃ m : Nat, k = m := ⟨k.toNat, by omega⟩
   have hm : 1 ≤ m ∧ m ≤ 6 := by omega
   have hS := (kind_zero hk).1
   have h2 := newLinkC_ hE (c := c) hx1 hk
   simp [dV] at h2
   have nl1 : ¬ ((m : Int) < 1) := by omega
   have ng6 : ¬ (6 < (m : Int)) := by omega
   have hcA : countA n x s L (m : Int) = if ¬ FewA (permL m).length (genN (dgOf n x s L)) then (0, 2) else ((cntD (dgOf n x s L) m : Int), 0) := by
    unfold countA
    rw [if_neg (by simp [hk]), if_neg (by simp; omega)]
    rfl
   rw [hcA]
   obtain ⟨G, hGe⟩ : ∃ G, G = dgOf n x s L := ⟨_, rfl⟩
   have hG : GoodG G := by rw [hGe]; exact good_of hS
   have hGn : G.n = n := by rw [hGe]; rfl
   have hGL : G.L = L := by rw [hGe]; rfl
   have hloops := hG.loops
   have hac := arC_le G
   have hsz := hG.size
   obtain ⟨g, hg⟩ : ∃ g, g = genN G := ⟨_, rfl⟩
   have hg' : (arC G : Int) + L = (g : Int) := by rw [hg, ← hGL]; unfold genN; omega
   have hgl : g ≤ 600 := by omega
   rw [← hGe, ← hg]
   obtain ⟨P, hP⟩ : ∃ P, P = (permL m).length := ⟨_, rfl⟩
   have hPl : P ≤ 46656 := by rw [hP]; exact permL_le hm.2
   rw [← hP]
   obtain ⟨zz, hzz⟩ : ∃ zz, zz = (if ¬ FewA P g then ((0 : Int), (2 : Int)) else ((cntD G m : Int), 0)) := ⟨_, rfl⟩
   rw [← hzz]
   simp [dV, rdN_at0, DC_of h1, hk, nl1, ng6, joined_fl]
   refine h2.imp ?_
   rintro o ⟨h3, f3⟩ ⟨pl, rfl, hp, hf, hs, hl⟩
   simp only at hf hs hl
   have hs0 : Sub h0 h3 := ((Sub.refl h0).app _).trans hs
   simp [joined_fl, hf]
   refine (presentation_ hE hl hS).imp ?_
   rintro o ⟨h4, f4⟩ ⟨v, rfl, hs4, hf4, hM⟩
   simp only at hf4 hs4 hM
   rw [← hGe] at hM ⊢
   rw [hg']
   have hM0 := hM.mat
   have hone : one1 v = true := by obtain ⟨va, vb, vo, vc, vvs, hv, hvr⟩ := hM0; rw [hv]; rfl
   have hl3 := hs.len
   simp at hl3
   have hl4 := hs4.len
   have hmin4 : min h0.length h4.length = h0.length := by omega
   obtain ⟨H, hH⟩ : ∃ H, H = h4 ++ [O.cells [.int .i64 g, v] 81 (some 0)] := ⟨_, rfl⟩
   have hlH : H.length = h4.length + 1 := by rw [hH]; simp
   have hsH : Sub h4 H := by rw [hH]; exact (Sub.refl _).app _
   have hs0H : Sub h0 H := (hs0.trans hs4).trans hsH
   have q6 : H[h4.length]? = some (.cells [.int .i64 g, v] 81 (some 0)) := by rw [hH, app_at0]; rfl
   simp [joined_fl, hf4, wrN_at0, hone, set_at0, hmin4, ← hH, rd_def, q6]
   refine DW_loop (fun kk fr st => ∃ (i : Nat) (h : List O), i + kk = g ∧ st = ⟨h, h0.length⟩ ∧ Sub H h ∧ (∀ i', i' < i → P ^ (i' + 1) ≤ 2000000) ∧ get fr 1 = .int .i64 m ∧ get fr 7 = .pointer (some ⟨h4.length, 0, none⟩) ∧ get fr 8 = .int .i64 ((P ^ i : Nat) : Int) ∧ get fr 25 = .int .i64 g ∧ get fr 26 = .int .i64 i) ?_ (k := g) ?_
   ·rintro kk fr st ⟨i, h, hik, rfl, hsub, hfew, g1, g7, g8, g25, g26⟩
    have hhl := hsub.len
    have q6h := hsub _ _ q6
    by_cases hi : i < g
    ·have hw : IntKind.i64.wrap ((i : Int) + 1) = (i : Int) + 1 := by rw [w64_id] <;> omega
     have hpi : P ^ i ≤ 2000000 := by
      cases i with
      | zero => simp
      | succ i => exact hfew i (by omega)
     have hpm : P ^ i * P ≤ 2000000 * 46656 := Nat.mul_le_mul hpi hPl
     have hpw : IntKind.i64.wrap (((P ^ i : Nat) : Int) * (P : Int)) = ((P ^ (i + 1) : Nat) : Int) := by
      rw [Nat.pow_succ, ← Int.natCast_mul]
      rw [w64_id] <;> omega
     obtain ⟨p0, hp0⟩ : ∃ p0, p0 = P ^ i := ⟨_, rfl⟩
     obtain ⟨p1, hp1⟩ : ∃ p1, p1 = P ^ (i + 1) := ⟨_, rfl⟩
     rw [← hp0] at g8 hpw
     rw [← hp1] at hpw
     simp [g1, g7, g8, g25, g26, hi]
     refine (permutations_ hE hm).imp ?_
     rintro o ⟨h5, f5⟩ ⟨w, rfl, s5, hf5, hPP⟩
     simp only at s5 hf5 hPP
     obtain ⟨wa, rfl, _⟩ := hPP.look
     rw [← hP]
     by_cases hbig : p1 ≤ 2000000
     ·have hb1 : ¬ (2000000 < (p1 : Int)) := by omega
      simp [joined_fl, hf5, g1, g7, g8, g25, g26, hpw, hb1, hw]
      refine ⟨kk - 1, by omega, i + 1, by omega, hsub.trans s5, fun i' hi' => ?_, by rw [hp1]; push_cast; rfl, by omega⟩
      by_cases e : i' < i
      ·exact hfew i' e
      ·obtain rfl : i' = i := by omega
       omega
     ·have hb1 : 2000000 < (p1 : Int) := by omega
      have hnF : ¬ FewA P g := fun hF => hbig (by rw [hp1]; exact hF i hi)
      rw [if_pos hnF] at hzz
      subst hzz
      simp [joined_fl, hf5, g1, g7, g8, g25, g26, hpw, hb1, hw, endK_ret, back, hsc]
    ·obtain rfl : i = g := by omega
     have hF : FewA P i := hfew
     rw [if_neg (fun h => h hF)] at hzz
     obtain ⟨pO, hpO⟩ : ∃ pO, pO = h.length := ⟨_, rfl⟩
     obtain ⟨h6, hh6⟩ : ∃ h6, h6 = h ++ [O.cells [.int .i64 0] 3 (some 0)] := ⟨_, rfl⟩
     have l6 : h6.length = h.length + 1 := by rw [hh6]; simp
     have q66 : h6[h4.length]? = some (.cells [.int .i64 i, v] 81 (some 0)) := by rw [hh6]; exact app_of q6h _
     have has := assignments_ hE (h := h6) (gens := i) (n := m) hone
     obtain ⟨h7, hh7⟩ : ∃ h7, h7 = h6 ++ [O.cells [.int .i64 i, v] 81 (some 0), O.cells [.int .i64 m] 3 (some 0)] := ⟨_, rfl⟩
     rw [← hh7] at has
     have l7 : h7.length = h.length + 3 := by rw [hh7]; simp [l6]
     have hmnh : min h0.length h.length = h0.length := by omega
     simp [g1, g8, g25, g26, wrN_at0, set_at0, hmnh]
     rw [← hh6]
     simp [g1, g7, g8, g25, g26, rd_def, rdN_def, q66, DC_of has, joined_fl]
     rw [← hpO]
     obtain ⟨pG, hpG⟩ : ∃ pG, pG = h6.length := ⟨_, rfl⟩
     obtain ⟨pN, hpN⟩ : ∃ pN, pN = h6.length + 1 := ⟨_, rfl⟩
     rw [← hpN, ← hpG]
     have z0 : h6[pO]? = some (O.cells [.int .i64 0] 3 (some 0)) := by rw [hh6, hpO, app_at0]; rfl
     have z1 : h7[pG]? = some (O.cells [.int .i64 i, v] 81 (some 0)) := by rw [hh7, hpG, app_at0]; rfl
     have z2 : h7[pN]? = some (O.cells [.int .i64 m] 3 (some 0)) := by rw [hh7, hpN, app_at]; rfl
     refine DW_rangeF (f := 188) (vs := [tok h7.length, .pointer (some ⟨pN, 0, none⟩), .pointer (some ⟨pG, 0, none⟩)]) (by simp) (by decide) ?_
     obtain ⟨frL, hfrL⟩ : ∃ frL, frL = put (put (put (put (put fr 27 (Value.bool false)) 9 (Value.pointer (some ⟨pO, 0, none⟩))) 36 (Value.agg #[.int .i64 i, v])) 37 (Value.int .i64 m)) 38 (Value.func (Fn.func 188) #[] #[Value.pointer (some ⟨pN, 0, none⟩), Value.pointer (some ⟨pG, 0, none⟩)]) := ⟨_, rfl⟩
     simp only []
     rw [← hfrL]
     have g9 : get frL 9 = .pointer (some ⟨pO, 0, none⟩) := by rw [hfrL]; simp
     obtain ⟨hK, hhK⟩ : ∃ hK, hK = h7 ++ [O.loop false 43 frL [39] (lcA 57 0) (lcB 57 0)] := ⟨_, rfl⟩
     have lK : hK.length = h7.length + 1 := by rw [hhK]; simp
     rw [← hhK, ← lK]
     have s67 : Sub h6 hK := by rw [hhK, hh7]; exact ((Sub.refl _).app _).app _
     have s7 : Sub h7 hK := by rw [hhK]; exact (Sub.refl _).app _
     have shK : Sub h hK := fun b o hb => s67 _ _ (by rw [hh6]; exact app_of hb _)
     have hkK : hK[h7.length]? = some (O.loop false 43 frL [39] (lcA 57 0) (lcB 57 0)) := by rw [hhK, app_at0]; rfl
     have hRl := relL_length G
     have hlet : ∀ r ∈ relL G, LetOk i r := fun r hr => by
      obtain ⟨q, hq, rfl⟩ := List.mem_map.1 hr
      exact relOf_let hG (List.mem_range.1 hq) (by rw [hg]; unfold genN; omega)
     have hcnt : (permL m).length ^ i ≤ 10000000000 := by
      rw [← hP]
      cases i with
      | zero => simp
      | succ i => have := hF i (by omega); omega
     refine (assign1_ hE hKp (hB := h4) hm hgl (by omega) hlet (hsH.trans (hsub.trans shK)) (by omega) hM0 hkK g9 (s67 _ _ z0) (s7 _ _ z2) (s7 _ _ z1) ⟨by omega, by omega, by omega⟩ hcnt).imp ?_
     rintro o ⟨h8, f8⟩ ⟨⟨w, rfl⟩, y1, y2, y3⟩
     simp only at y1 y2 y3
     refine ⟨⟨_, rfl⟩, ?_⟩
     have hk8 := y2 _ _ hkK (by omega)
     obtain ⟨f9, hj9, hf9⟩ : ∃ f9, joined ⟨hK, h0.length⟩ ⟨h8, f8⟩ = ⟨h8, f9⟩ ∧ h0.length ≤ f9 := by
      simp only [joined]
      split
      ·exact ⟨_, rfl, by omega⟩
      ·exact ⟨_, rfl, by omega⟩
     rw [hj9]
     refine ⟨_, over_eq hk8, ?_⟩
     have y4 : (h8.set h7.length .dead)[pO]? = some (.cells [.int .i64 (cntV m (permL m) (relL G) i [])] 3 (some 0)) := set_ne y3 (by omega)
     have hzc : cntD G m = cntV m (permL m) (relL G) i [] := by unfold cntD; rw [← hg]
     have hmf : h0.length ≤ min f9 h7.length := by omega
     rw [hzz, hzc]
     simp [g9, rd_def, y4, endK_ret, back, hsc]
     rw [if_pos hmf]
     exact ⟨rfl, rfl⟩
   ·exact ⟨0, H, by omega, rfl, Sub.refl _, fun i' hi' => by omega, by simp⟩
  ·unfold countA
   rw [if_neg (by simp [hk]), if_pos hk6]
   by_cases hlt : k < 1
   ·simp [dV, rdN_at0, DC_of h1, hk, hlt, endK_ret, joined_fl, back, hsc]
   ·have hgt : 6 < k := by omega
    simp [dV, rdN_at0, DC_of h1, hk, hlt, hgt, endK_ret, joined_fl, back, hsc]
 ·unfold countA
  rw [if_pos hk]
  simp [dV, rdN_at0, DC_of h1, hk, endK_ret, joined_fl, back, hsc]
end Go.Proofs.Ytjlkndkedknocaa
namespace Go.Ai
attribute [local instance] Classical.propDecidable
def KnownL (w : List Int) (k : Int) : Prop := ∀ j, j < w.length → nth w j ≤ k ∧ -(nth w j) ≤ k
theorem foldl_max_le {w : List Int} {k : Nat} : ∀ {m : Nat}, w.foldl (fun m x => max m x.natAbs) m ≤ k ↔ m ≤ k ∧ ∀ y ∈ w, y.natAbs ≤ k := by
 induction w with
 | nil => intro m; simp
 | cons a w ih =>
  intro m
  rw [List.foldl_cons, ih]
  simp only [List.mem_cons, forall_eq_or_imp]
  constructor
  ·rintro ⟨h1, h2⟩; exact ⟨by omega, by omega, h2⟩
  ·rintro ⟨h1, h2, h3⟩; exact ⟨by omega, h3⟩
theorem known_iff {w : List Int} {k : Nat} : KnownL w k ↔ lastW w ≤ k := by
 unfold lastW
 rw [foldl_max_le]
 constructor
 ·intro h
  refine ⟨by omega, fun y hy => ?_⟩
  obtain ⟨j, hj, he⟩ := List.getElem_of_mem hy
  have := h j hj
  rw [nth_eq hj, he] at this
  omega
 ·intro h j hj
  have := h.2 _ (nth_mem hj)
  omega
theorem known_last {w : List Int} {k : Nat} (hw : w ≠ []) : (KnownL w k ∧ ¬ KnownL w ((k : Int) - 1)) ↔ lastW w = k := by
 rcases Nat.eq_zero_or_pos k with rfl | hk
 ·have hn : ¬ KnownL w ((0 : Nat) - 1) := fun h => by
   have hl : 0 < w.length := List.length_pos_iff.2 hw
   have := h 0 hl
   omega
  rw [known_iff]
  constructor
  ·rintro ⟨h, _⟩; omega
  ·intro h; exact ⟨by omega, hn⟩
 ·rw [show (k : Int) - 1 = ((k - 1 : Nat) : Int) by omega, known_iff, known_iff]
  omega
def OkC (n : Nat) (rels A : List (List Int)) : Prop := ∀ i, i < rels.length → lastW (nthR rels i) = A.length → TrivL A (A.map invL) (nthR rels i) n
noncomputable def cntC (n : Nat) (P rels : List (List Int)) : Nat → List (List Int) → Nat
 | 0, A => if OkC n rels A then 1 else 0
 | m + 1, A => if OkC n rels A then sumNat (fun q => cntC n P rels m (A ++ [nthR P q])) P.length else 0
theorem ok_good {n : Nat} {rels A : List (List Int)} : GoodA n rels A ↔ OkC n rels A := by
 have hr : ∀ r, (∃ i, i < (readyL rels A.length).length ∧ nthR (readyL rels A.length) i = r) ↔ (∃ i, i < rels.length ∧ nthR rels i = r ∧ lastW r = A.length) := by
  intro r
  have e1 : ∀ (l : List (List Int)) (r : List Int), (∃ i, i < l.length ∧ nthR l i = r) ↔ r ∈ l := fun l r => by
   constructor
   ·rintro ⟨i, hi, rfl⟩
    simp [nthR, hi]
   ·intro h
    obtain ⟨i, hi, he⟩ := List.getElem_of_mem h
    exact ⟨i, hi, by simp [nthR, hi, he]⟩
  rw [e1]
  unfold readyL
  rw [List.mem_filter, ← e1]
  simp
  constructor
  ·rintro ⟨⟨i, h1, h2⟩, h3⟩; exact ⟨i, h1, h2, h3⟩
  ·rintro ⟨i, h1, h2, h3⟩; exact ⟨⟨i, h1, h2⟩, h3⟩
 constructor
 ·intro h i hi he
  obtain ⟨j, hj, hjr⟩ := (hr (nthR rels i)).2 ⟨i, hi, rfl, he⟩
  have := h j hj
  rw [hjr] at this
  exact this
 ·intro h i hi
  obtain ⟨j, hj, hjr, hl⟩ := (hr (nthR (readyL rels A.length) i)).1 ⟨i, hi, rfl⟩
  have := h j hj (by rw [hjr]; exact hl)
  rw [hjr] at this
  exact this
theorem sumNat_congr {f g : Nat → Nat} : ∀ {n : Nat}, (∀ i, i < n → f i = g i) → sumNat f n = sumNat g n := by
 intro n
 induction n with
 | zero => intro _; rfl
 | succ n ih => intro h; simp only [sumNat]; rw [ih fun i hi => h i (by omega), h n (by omega)]
theorem cntC_eq (n : Nat) (P rels : List (List Int)) : ∀ m A, cntC n P rels m A = if OkC n rels A then cntV n P rels m A else 0 := by
 intro m
 induction m with
 | zero => intro A; simp only [cntC, cntV]
 | succ m ih =>
  intro A
  simp only [cntC, cntV]
  split
  ·refine sumNat_congr fun q hq => ?_
   rw [ih]
   by_cases h : OkC n rels (A ++ [nthR P q])
   ·rw [if_pos h, if_pos (ok_good.2 h)]
   ·rw [if_neg h, if_neg fun h' => h (ok_good.1 h')]
  ·rfl
theorem cntC_le (n : Nat) (P rels : List (List Int)) (m : Nat) (A : List (List Int)) : cntC n P rels m A ≤ P.length ^ m := by
 rw [cntC_eq]
 split
 ·exact cntV_le _ _ _ _ _
 ·omega
theorem sumNat_list (f : List Int → Nat) (P : List (List Int)) : sumNat (fun q => f (nthR P q)) P.length = (P.map f).sum := by
 have key : ∀ k, k ≤ P.length → sumNat (fun q => f (nthR P q)) k = ((P.take k).map f).sum := by
  intro k
  induction k with
  | zero => intro _; simp [sumNat]
  | succ k ih =>
   intro hk
   have hk' : k < P.length := by omega
   rw [List.take_succ_eq_append_getElem hk', List.map_append, List.sum_append, ← ih (by omega)]
   simp [sumNat, nthR, hk']
 have := key P.length (Nat.le_refl _)
 rwa [List.take_length] at this
theorem cntV_perm {n : Nat} {P P' rels : List (List Int)} (h : P.Perm P') : ∀ m A, cntV n P rels m A = cntV n P' rels m A := by
 intro m
 induction m with
 | zero => intro A; rfl
 | succ m ih =>
  intro A
  simp only [cntV]
  rw [sumNat_list (fun f => if GoodA n rels (A ++ [f]) then cntV n P rels m (A ++ [f]) else 0) P, sumNat_list (fun f => if GoodA n rels (A ++ [f]) then cntV n P' rels m (A ++ [f]) else 0) P']
  simp only [ih]
  exact (h.map _).sum_nat
end Go.Ai
namespace Go.Proofs.Ytjlkndkedknocaa
open Go Go.Ai
attribute [local instance] Classical.propDecidable
variable {E : Env} (hE : OE E)
include hE
theorem known_ {h : List O} {vw : Value} {w : List Int} (hw : Ints h vw w) {k : Int} (hk : -1 ≤ k ∧ k ≤ 1000) (hs : ∀ j, j < w.length → -1000 ≤ nth w j ∧ nth w j ≤ 1000) :
  DR E 230 [vw, .int .i64 k] ⟨h, h.length⟩ (.ret (.bool (decide (KnownL w k)))) ⟨h, h.length⟩ := by
 refine hE.fn (body := rb230) rfl ?_
 unfold rb230
 have hwlen : w.length < 2 ^ 62 := by obtain ⟨_, _, _, _, _, _, _, _, h5⟩ := hw; exact h5
 obtain ⟨wa, wb, wo, wc, rfl, hwa, hwr⟩ := hw.at
 have hsc : ∀ b : Bool, (Out.ret (.bool b)).scalar = true := fun _ => rfl
 obtain ⟨bb, hbb⟩ : ∃ bb, bb = decide (KnownL w k) := ⟨_, rfl⟩
 rw [← hbb]
 simp
 refine DW_loop (fun kk fr st => ∃ (j : Nat), j + kk = w.length ∧ st = ⟨h, h.length⟩ ∧ (∀ i, i < j → nth w i ≤ k ∧ -(nth w i) ≤ k) ∧ get fr 1 = .int .i64 k ∧ get fr 7 = .slice wa w.length wc ∧ get fr 8 = .int .i64 w.length ∧ get fr 9 = .int .i64 j) ?_ (k := w.length) ?_
 ·rintro kk fr st ⟨j, hjk, rfl, hd, g1, g7, g8, g9⟩
  by_cases hj : j < w.length
  ·have hwj : IntKind.i64.wrap ((j : Int) + 1) = (j : Int) + 1 := by rw [w64_id] <;> omega
   obtain rfl := hwa (by omega)
   have hb := hs j hj
   have hwn : IntKind.i64.wrap (-(nth w j)) = -(nth w j) := by rw [w64_id] <;> omega
   by_cases h1 : k < nth w j
   ·have hn : ¬ KnownL w k := fun hk' => by have := (hk' j hj).1; omega
    rw [decide_eq_false hn] at hbb
    subst hbb
    simp [g1, g7, g8, g9, hj, rd_def, hwr j hj, h1, hwn, endK_ret, back, hsc]
   ·by_cases h2 : k < -(nth w j)
    ·have hn : ¬ KnownL w k := fun hk' => by have := (hk' j hj).2; omega
     rw [decide_eq_false hn] at hbb
     subst hbb
     simp [g1, g7, g8, g9, hj, rd_def, hwr j hj, h1, h2, hwn, endK_ret, back, hsc]
    ·simp [g1, g7, g8, g9, hj, rd_def, hwr j hj, h1, h2, hwn, hwj]
     refine ⟨kk - 1, by omega, j + 1, by omega, fun i hi => ?_, by omega⟩
     by_cases e : i = j
     ·rw [e]; omega
     ·exact hd i (by omega)
  ·have hjw : j = w.length := by omega
   have hy : KnownL w k := fun i hi => hd i (by omega)
   rw [decide_eq_true hy] at hbb
   subst hbb
   simp [g1, g7, g8, g9, hjw, endK_ret, back, hsc]
 ·exact ⟨0, by omega, rfl, fun i hi => by omega, by simp⟩
end Go.Proofs.Ytjlkndkedknocaa
namespace Go.Ai
variable {E : Env}
@[simp] theorem quietOp_strIdx {a b} : quietOp (.strIdx a b) = true := rfl
@[simp] theorem DL_strIdx {a b} {dst : Option Nat} {anc : Nat} {os : List ROper} {fr st} {Q : Post} : DL E (⟨dst, none, .strIdx a b, anc⟩ :: os) fr st Q ↔ resQ (step (.strIdx a b) (ev fr) st) (stepK E dst os fr Q) := (DL_step' rfl).trans stepW_res
@[simp] theorem quietOp_strSl {a b c} : quietOp (.strSl a b c) = true := rfl
@[simp] theorem DL_strSl {a b c} {dst : Option Nat} {anc : Nat} {os : List ROper} {fr st} {Q : Post} : DL E (⟨dst, none, .strSl a b c, anc⟩ :: os) fr st Q ↔ resQ (step (.strSl a b c) (ev fr) st) (stepK E dst os fr Q) := (DL_step' rfl).trans stepW_res
@[simp] theorem DD_strSl {a b c} {i : Nat} {acc : List (Nat × FP)} {dst : Option Nat} {anc : Nat} {os : List ROper} {fr st} {Q : Post} : DD E i acc (⟨dst, none, .strSl a b c, anc⟩ :: os) fr st Q ↔ resQ (step (.strSl a b c) (ev fr) st) (stepKD E i acc ⟨dst, none, .strSl a b c, anc⟩ os fr st Q) := (DD_step' rfl).trans stepW_res
@[simp] theorem quietOp_strOf {a} : quietOp (.strOf a) = true := rfl
@[simp] theorem DL_strOf {a} {dst : Option Nat} {anc : Nat} {os : List ROper} {fr st} {Q : Post} : DL E (⟨dst, none, .strOf a, anc⟩ :: os) fr st Q ↔ resQ (step (.strOf a) (ev fr) st) (stepK E dst os fr Q) := (DL_step' rfl).trans stepW_res
variable {e : Operand → Value} {st : St}
@[simp] theorem step_strIdx {x i} : step (.strIdx x i) e st = valS (strIdxV (e x) (e i)) st := rfl
@[simp] theorem step_strSl {x lo hi} : step (.strSl x lo hi) e st = valS (strSlV (e x) (lo.map e) (hi.map e)) st := rfl
@[simp] theorem step_strOf {x} : step (.strOf x) e st = valS (strOfV st.h (e x)) st := rfl
@[simp] theorem fpOf_strIdx {a b} : fpOf (.strIdx a b) e st = {} := rfl
@[simp] theorem fpOf_strSl {a b c} : fpOf (.strSl a b c) e st = {} := rfl
@[simp] theorem fpOf_strOf {a} : fpOf (.strOf a) e st = { r := blk (e a) } := rfl
@[simp] theorem blk_str {s} : blk (.string s) = [] := rfl
@[simp] theorem binV_strEq {a b} : binV .eql (.string a) (.string b) = some (.bool (a.toList == b.toList)) := rfl
@[simp] theorem binV_strNe {a b} : binV .neq (.string a) (.string b) = some (.bool (!(a.toList == b.toList))) := rfl
@[simp] theorem lenV_str {h s} : lenV h 1 (.string s) = some (.int .i64 s.size) := rfl
def tkB (T s : ByteArray) (pos : Nat) : Bool := decide (pos + s.size ≤ T.size) && ((T.extract pos (pos + s.size)).toList == s.toList)
theorem strSl_at {T : ByteArray} {a b : Nat} (h : a ≤ b) (hb : b ≤ T.size) : strSlV (.string T) (some (.int .i64 a)) (some (.int .i64 b)) = some (.string (T.extract a b)) := by
 have h1 : (a : Int) ≤ b := by omega
 have h2 : (b : Int) ≤ T.size := by omega
 simp [strSlV, hiB, loB, bound, h, hb]
end Go.Ai
namespace Go.Proofs.Ytjlkndkedknocaa
open Go Go.Ai
attribute [local instance] Classical.propDecidable
variable {E : Env} (hE : OE E)
include hE
theorem take_ {h : List O} {r pos : Nat} {T s : ByteArray} {ok : Bool} (hr : h[r]? = some (.cells [.string T, .int .i64 pos, .bool ok] 223 (some 0))) (hT : T.size ≤ 200000) (hs : s.size ≤ 100) (hp : pos ≤ T.size) :
  DR E 182 [.pointer (some ⟨r, 0, none⟩), .string s] ⟨h, h.length⟩ (.ret (.bool (tkB T s pos))) (if tkB T s pos = true then ⟨h.set r (.cells [.string T, .int .i64 ((pos + s.size : Nat) : Int), .bool ok] 223 (some 0)), r⟩ else ⟨h, h.length⟩) := by
 refine hE.fn (body := rb182) rfl ?_
 unfold rb182
 have hw : IntKind.i64.wrap ((pos : Int) + (s.size : Int)) = ((pos + s.size : Nat) : Int) := by rw [w64_id] <;> omega
 have lr := (List.getElem?_eq_some_iff.1 hr).1
 by_cases h1 : pos + s.size ≤ T.size
 ·have h1' : ((pos + s.size : Nat) : Int) ≤ (T.size : Int) := by omega
  have hsl := strSl_at (T := T) (a := pos) (b := pos + s.size) (by omega) h1
  by_cases h2 : (T.extract pos (pos + s.size)).toList == s.toList
  ·have hb : tkB T s pos = true := by unfold tkB; simp [h1, h2]
   rw [hb]
   have hw' := hw
   push_cast at hw' h1' hsl
   simp [rd_def, hr, hw', h1', hsl, h2, wrN_def, endK_ret, back]
   rw [if_neg (by omega), show min h.length r = r by omega]
   exact ⟨rfl, rfl⟩
  ·have hb : tkB T s pos = false := by unfold tkB; simp [h2]
   rw [hb]
   have hw' := hw
   push_cast at hw' h1' hsl
   simp [rd_def, hr, hw', h1', hsl, h2, endK_ret, back]
 ·have h1' : ¬ ((pos + s.size : Nat) : Int) ≤ (T.size : Int) := by omega
  have hb : tkB T s pos = false := by unfold tkB; simp [h1]
  rw [hb]
  have hw' := hw
  push_cast at hw' h1'
  simp [rd_def, hr, hw', h1', endK_ret, back]
theorem decimal_ {h : List O} {n : Nat} {S : ByteArray} (hn : n < 10) (hS : ByteArray.empty.push (UInt8.ofNat (48 + (n : Int)).toNat) = S) : DR E 227 [.int .i64 n] ⟨h, h.length⟩ (.ret (.string S)) ⟨h, h.length⟩ := by
 refine hE.fn (body := rb227) rfl ?_
 unfold rb227
 have h1 : (n : Int) < 10 := by omega
 have hw : IntKind.i64.wrap (48 + (n : Int)) = 48 + (n : Int) := by rw [w64_id] <;> omega
 have hw8 : IntKind.u8.wrap (48 + (n : Int)) = 48 + (n : Int) := by
  match n, hn with
  | 0, _ => rfl
  | 1, _ => rfl
  | 2, _ => rfl
  | 3, _ => rfl
  | 4, _ => rfl
  | 5, _ => rfl
  | 6, _ => rfl
  | 7, _ => rfl
  | 8, _ => rfl
  | 9, _ => rfl
 have hsc : (Out.ret (Value.string S)).scalar = true := rfl
 simp [h1, hw, hw8, strOfV, byteS, hS, endK_ret, back, hsc]
theorem number_ {h : List O} {r pos n : Nat} {T S : ByteArray} {ok : Bool} (hr : h[r]? = some (.cells [.string T, .int .i64 pos, .bool ok] 223 (some 0))) (hT : T.size ≤ 200000) (hp : pos < T.size) (hn : n < 10)
  (hd : strIdxV (.string T) (.int .i64 pos) = some (.int .u8 ((48 + n : Nat) : Int))) (he : pos + 1 < T.size → ∃ c : Int, strIdxV (.string T) (.int .i64 ((pos : Int) + 1)) = some (.int .u8 c) ∧ (c < 48 ∨ 57 < c))
  (hS : ByteArray.empty.push (UInt8.ofNat (48 + (n : Int)).toNat) = S) (hx : S.toList == (T.extract pos (pos + 1)).toList) :
  DR E 183 [.pointer (some ⟨r, 0, none⟩)] ⟨h, h.length⟩ (.ret (.int .i64 n)) ⟨h.set r (.cells [.string T, .int .i64 ((pos : Int) + 1), .bool ok] 223 (some 0)), r⟩ := by
 refine hE.fn (body := rb183) rfl ?_
 unfold rb183
 have lr := (List.getElem?_eq_some_iff.1 hr).1
 have hw00 : IntKind.i64.wrap 0 = 0 := rfl
 have hw1 : IntKind.i64.wrap ((pos : Int) + 1) = (pos : Int) + 1 := by rw [w64_id] <;> omega
 have hw2 : IntKind.i64.wrap (48 + (n : Int)) = 48 + (n : Int) := by rw [w64_id] <;> omega
 have hw3 : IntKind.i64.wrap (48 + (n : Int) - 48) = (n : Int) := by rw [w64_id] <;> omega
 have hw5 : IntKind.i64.wrap ((pos : Int) + 1 - pos) = 1 := by rw [w64_id] <;> omega
 push_cast at hd
 have c1 : (48 : Int) ≤ 48 + n := by omega
 have c2 : 48 + (n : Int) ≤ 57 := by omega
 obtain ⟨h1, hh1⟩ : ∃ h1, h1 = h.set r (.cells [.string T, .int .i64 ((pos : Int) + 1), .bool ok] 223 (some 0)) := ⟨_, rfl⟩
 have hr1 : h1[r]? = some (.cells [.string T, .int .i64 ((pos : Int) + 1), .bool ok] 223 (some 0)) := by rw [hh1]; exact set_self hr
 have hmr : min h.length r = r := by omega
 rw [← hh1]
 simp [rd_def, hr]
 refine DW_loop (fun kk fr st => get fr 0 = .pointer (some ⟨r, 0, none⟩) ∧ get fr 3 = .int .i64 pos ∧ ((kk = 1 ∧ st = ⟨h, h.length⟩ ∧ get fr 4 = .int .i64 0) ∨ (kk = 0 ∧ st = ⟨h1, r⟩ ∧ get fr 4 = .int .i64 n))) ?_ (k := 1) ?_
 ·rintro kk fr st ⟨g0, g3, ⟨rfl, rfl, g4⟩ | ⟨rfl, rfl, g4⟩⟩
  ·simp [g0, g3, g4, rd_def, hr, hp, hd, hw00, hw1, hw2, hw3, c1, c2, wrN_def, ← hh1, hmr]
  ·have hdec := decimal_ hE (h := h1) hn hS
   have l1 : h1.length = h.length := by rw [hh1]; simp
   have hsl := strSl_at (T := T) (a := pos) (b := pos + 1) (by omega) (by omega)
   push_cast at hsl
   have hn1000 : ¬ (1000 < (n : Int)) := by omega
   have hne : ¬ ((pos : Int) + 1 = pos) := by omega
   have hjo : joined ⟨h1, r⟩ ⟨h1, h1.length⟩ = ⟨h1, r⟩ := joined_fl (Nat.le_refl _)
   have hsc : (Out.ret (Value.int .i64 (n : Int))).scalar = true := rfl
   have hnr : ¬ h.length ≤ r := by omega
   by_cases hl : pos + 1 < T.size
   ·obtain ⟨c, e1, e2⟩ := he hl
    have hl' : (pos : Int) + 1 < (T.size : Int) := by omega
    by_cases e3 : 48 ≤ c
    ·have e4 : ¬ (c ≤ 57) := by omega
     simp [g0, g3, g4, rd_def, hr1, hl', e1, e3, e4, hw5, DC_of hdec, hsl, hx, hn1000, hne, hjo, endK_ret, back, hsc, hnr, bit]
    ·simp [g0, g3, g4, rd_def, hr1, hl', e1, e3, hw5, DC_of hdec, hsl, hx, hn1000, hne, hjo, endK_ret, back, hsc, hnr, bit]
   ·have hl' : ¬ ((pos : Int) + 1 < (T.size : Int)) := by omega
    simp [g0, g3, g4, rd_def, hr1, hl', hw5, DC_of hdec, hsl, hx, hn1000, hne, hjo, endK_ret, back, hsc, hnr, bit]
 ·simp
omit hE in
def numB (T : ByteArray) (pos n : Nat) : Bool :=
 decide (pos < T.size) && decide (n < 10) && (match strIdxV (.string T) (.int .i64 pos) with | some (.int .u8 c) => c == 48 + n | _ => false) &&
 (!decide (pos + 1 < T.size) || match strIdxV (.string T) (.int .i64 ((pos : Int) + 1)) with | some (.int .u8 c) => decide (c < 48 ∨ 57 < c) | _ => false) &&
 ((ByteArray.empty.push (UInt8.ofNat (48 + (n : Int)).toNat)).toList == (T.extract pos (pos + 1)).toList)
theorem numberB_ {h : List O} {r pos n : Nat} {T : ByteArray} {ok : Bool} (hr : h[r]? = some (.cells [.string T, .int .i64 pos, .bool ok] 223 (some 0))) (hT : T.size ≤ 200000) (hb : numB T pos n = true) :
  DR E 183 [.pointer (some ⟨r, 0, none⟩)] ⟨h, h.length⟩ (.ret (.int .i64 n)) ⟨h.set r (.cells [.string T, .int .i64 ((pos : Int) + 1), .bool ok] 223 (some 0)), r⟩ := by
 unfold numB at hb
 simp only [Bool.and_eq_true, decide_eq_true_eq, Bool.or_eq_true, Bool.not_eq_true', decide_eq_false_iff_not] at hb
 obtain ⟨⟨⟨⟨h1, h2⟩, h3⟩, h4⟩, h5⟩ := hb
 refine number_ hE hr hT h1 h2 ?_ (fun hl => ?_) rfl h5
 ·split at h3
  ·rename_i c hc
   rw [hc, beq_iff_eq.1 h3]
   push_cast
   rfl
  ·cases h3
 ·rcases h4 with h4 | h4
  ·exact absurd hl h4
  ·split at h4
   ·rename_i c hc
    exact ⟨c, hc, by simpa using h4⟩
   ·cases h4
theorem takeT_ {h : List O} {r pos : Nat} {T s : ByteArray} {ok : Bool} (hr : h[r]? = some (.cells [.string T, .int .i64 pos, .bool ok] 223 (some 0))) (hT : T.size ≤ 200000) (hs : s.size ≤ 100) (hp : pos ≤ T.size) (hb : tkB T s pos = true) :
  DR E 182 [.pointer (some ⟨r, 0, none⟩), .string s] ⟨h, h.length⟩ (.ret (.bool true)) ⟨h.set r (.cells [.string T, .int .i64 ((pos + s.size : Nat) : Int), .bool ok] 223 (some 0)), r⟩ := by
 have := take_ hE hr hT hs hp
 rw [hb, if_pos rfl] at this
 exact this
theorem takeF_ {h : List O} {r pos : Nat} {T s : ByteArray} {ok : Bool} (hr : h[r]? = some (.cells [.string T, .int .i64 pos, .bool ok] 223 (some 0))) (hT : T.size ≤ 200000) (hs : s.size ≤ 100) (hp : pos ≤ T.size) (hb : tkB T s pos = false) :
  DR E 182 [.pointer (some ⟨r, 0, none⟩), .string s] ⟨h, h.length⟩ (.ret (.bool false)) ⟨h, h.length⟩ := by
 have := take_ hE hr hT hs hp
 rw [hb, if_neg (by simp)] at this
 exact this
end Go.Proofs.Ytjlkndkedknocaa
namespace Go.Proofs.Ytjlkndkedknocaa
open Go Go.Ai
attribute [local instance] Classical.propDecidable
def tgt (G : Dg) (a : Nat) (inn : Bool) : Nat × Nat := if inn then (G.T a 2, G.T a 3) else (G.T a 0, G.T a 1)
theorem tgt_in {G : Dg} (hG : GoodG G) {a : Nat} (ha : a < 2 * G.n) (inn : Bool) : (tgt G a inn).1 < G.n ∧ (tgt G a inn).2 < 4 := by
 obtain ⟨t0, t1, t2, t3, _⟩ := hG.T a ha
 cases inn
 ·exact ⟨t0, t1⟩
 ·exact ⟨t2, t3⟩
theorem tgt_hit {G : Dg} (hG : GoodG G) {a i q : Nat} (ha : a < 2 * G.n) (hi : i < G.n) (hq : q < 4) (inn : Bool) : (G.X i q = a ∧ (!outB (G.s i) q) = inn) ↔ (i, q) = tgt G a inn := by
 obtain ⟨t0, t1, t2, t3, x1, x2, hne⟩ := hG.T a ha
 obtain ⟨d1, d2⟩ := hG.dir a ha
 constructor
 ·rintro ⟨h1, h2⟩
  have hc := hG.cover i q hi hq
  rw [h1] at hc
  rcases hc with ⟨e1, e2⟩ | ⟨e1, e2⟩
  ·rw [← e1, ← e2] at d1
   rw [d1] at h2
   subst h2
   simp [tgt, e1.symm, e2.symm]
  ·rw [← e1, ← e2] at d2
   rw [d2] at h2
   subst h2
   simp [tgt, e1.symm, e2.symm]
 ·intro h
  cases inn
  ·simp only [tgt, Bool.false_eq_true, if_false, Prod.mk.injEq] at h
   rw [h.1, h.2]
   exact ⟨x1, by rw [d1]; rfl⟩
  ·simp only [tgt, if_true, Prod.mk.injEq] at h
   rw [h.1, h.2]
   exact ⟨x2, by rw [d2]; rfl⟩
theorem tgt_oth {G : Dg} (hG : GoodG G) {x : Nat × Nat} (hx : InV G x) : tgt G (G.X x.1 x.2) (outB (G.s x.1) x.2) = oth G x := by
 obtain ⟨h1, h2, h3⟩ := hx
 obtain ⟨t0, t1, t2, t3, x1, x2, hne⟩ := hG.T _ h3
 obtain ⟨d1, d2⟩ := hG.dir _ h3
 unfold oth
 rcases hG.cover _ _ h1 h2 with ⟨e1, e2⟩ | ⟨e1, e2⟩
 ·rw [if_pos ⟨e1.symm, e2.symm⟩]
  rw [← e1, ← e2] at d1
  simp [tgt, d1]
 ·rw [if_neg (fun h => hne ⟨by rw [h.1, ← e1], by rw [h.2, ← e2]⟩)]
  rw [← e1, ← e2] at d2
  simp [tgt, d2]
theorem CrossP.reads {h : List O} {b o n : Nat} {x : Nat → Nat → Int} {s : Nat → Int} (hr : ∀ i, i < n → rdN h b (o + i * 5) 5 = some (crossC (x i) (s i))) {i : Nat} (hi : i < n) : (∀ q, q < 4 → rd h b (o + i * 5 + q) = some (.int .i64 (x i q))) ∧ rd h b (o + i * 5 + 4) = some (.int .i64 (s i)) := by
 refine ⟨fun q hq => ?_, ?_⟩
 ·rw [rd_of_rdN (hr i hi) (show q < 5 by omega)]
  match q, hq with
  | 0, _ => rfl
  | 1, _ => rfl
  | 2, _ => rfl
  | 3, _ => rfl
 ·rw [rd_of_rdN (hr i hi) (show 4 < 5 by omega)]; rfl
variable {E : Env} (hE : OE E)
include hE
theorem In_ {h : List O} {x : Nat → Int} {s : Int} {q : Nat} (hs : s = 1 ∨ s = -1) (hq : q < 4) :
  DR E 192 [crossV x s, .int .i64 q] ⟨h, h.length⟩ (.ret (.bool (!outB s q))) ⟨h, h.length⟩ := by
 refine hE.fn (body := rb192) rfl ?_
 unfold rb192
 rcases hs with rfl | rfl
 all_goals
  match q, hq with
  | 0, _ => simp [crossV, rd_at0, outB]
  | 1, _ => simp [crossV, rd_at0, outB]
  | 2, _ => simp [crossV, rd_at0, outB]
  | 3, _ => simp [crossV, rd_at0, outB]
theorem end_ {h0 : List O} {a : Option Addr} {n c : Nat} {x : Nat → Nat → Int} {s : Nat → Int} {L : Int} (hx : CrossP h0 a n x s) (hS : Snd n x s L) {arc : Nat} (ha : arc < 2 * n) (inn : Bool) :
  DR E 213 [dV a n c L, .int .i64 arc, .bool inn] ⟨h0, h0.length⟩ (.ret (endV (tgt (dgOf n x s L) arc inn))) ⟨h0, h0.length⟩ := by
 refine hE.fn (body := rb213) rfl ?_
 unfold rb213
 have hG := good_of hS
 have hxe : ∀ i q, i < n → q < 4 → x i q = (dgOf n x s L).X i q := fun i q hi hq => sound_x hS hi hq
 obtain ⟨G, hGe⟩ : ∃ G, G = dgOf n x s L := ⟨_, rfl⟩
 have hGn : G.n = n := by rw [hGe]; rfl
 have hGs : G.s = s := by rw [hGe]; rfl
 rw [← hGe] at hG hxe ⊢
 have hsz := hG.size
 obtain ⟨xb, xo, hxa, hxr⟩ := hx
 obtain rfl := hxa (by omega)
 obtain ⟨t, ht⟩ : ∃ t, t = tgt G arc inn := ⟨_, rfl⟩
 obtain ⟨ht1, ht2⟩ := tgt_in hG (a := arc) (by omega) inn
 rw [← ht] at ht1 ht2 ⊢
 simp [dV, List.append_assoc]
 obtain ⟨hB, hhB⟩ : ∃ H, H = h0 ++ [O.cells [.slice (some ⟨xb, xo, none⟩) n c, .int .i64 L] 24 (some 0), O.cells [.int .i64 0, .int .i64 0] 72 (some 0)] := ⟨_, rfl⟩
 have hBs : Sub h0 hB := by rw [hhB]; exact (Sub.refl _).app _
 have hB0 : hB[h0.length]? = some (O.cells [.slice (some ⟨xb, xo, none⟩) n c, .int .i64 L] 24 (some 0)) := by rw [hhB, app_at0]; rfl
 have hB1 : hB[h0.length + 1]? = some (O.cells [.int .i64 0, .int .i64 0] 72 (some 0)) := by rw [hhB, app_at]; rfl
 rw [← hhB]
 refine DW_loop (fun kk fr st => ∃ (i : Nat), i + kk = n ∧ st = ⟨hB, h0.length⟩ ∧ 4 * i ≤ 4 * t.1 + t.2 ∧ get fr 1 = .int .i64 arc ∧ get fr 2 = .bool inn ∧ get fr 3 = .pointer (some ⟨h0.length, 0, none⟩) ∧ get fr 6 = .pointer (some ⟨h0.length + 1, 0, none⟩) ∧ get fr 7 = .int .i64 i) ?_ (k := n) ?_
 ·rintro kk fr st ⟨i, hik, rfl, hle, g1, g2, g3, g6, g7⟩
  have hi : i < n := by omega
  obtain ⟨rq, rs⟩ := CrossP.reads (fun i hi => hBs.rdN (hxr i hi)) hi
  have hcr := hBs.rdN (hxr i hi)
  rw [rdN_def] at hcr
  simp only [rd_def] at rq
  simp only [crossC] at hcr
  simp [g1, g2, g3, g6, g7, rd_def, hB0, hi]
  refine DW_loop (fun kk' fr st => ∃ (q : Nat), q + kk' = 4 ∧ st = ⟨hB, h0.length⟩ ∧ 4 * i + q ≤ 4 * t.1 + t.2 ∧ get fr 1 = .int .i64 arc ∧ get fr 2 = .bool inn ∧ get fr 3 = .pointer (some ⟨h0.length, 0, none⟩) ∧ get fr 6 = .pointer (some ⟨h0.length + 1, 0, none⟩) ∧ get fr 7 = .int .i64 i ∧ get fr 8 = .int .i64 q) ?_ (k := 4) ?_
  ·clear g1 g2 g3 g6 g7
   rintro kk' fr st ⟨q, hqk, rfl, hle, g1, g2, g3, g6, g7, g8⟩
   by_cases hq : q < 4
   ·have hq' : (q : Int) < 4 := by omega
    have hw : IntKind.i64.wrap ((q : Int) + 1) = (q : Int) + 1 := by rw [w64_id] <;> omega
    have hsg := hG.sign i (by omega)
    rw [hGs] at hsg
    have hin := fun h => In_ hE (h := h) (x := x i) (s := s i) hsg hq
    simp only [crossV] at hin
    have hit := tgt_hit hG (a := arc) (i := i) (q := q) (by omega) (by omega) hq inn
    rw [hGs, ← ht] at hit
    have hr := rq q hq
    rw [hxe i q hi hq] at hr
    have hmin : min h0.length (h0.length + 1) = h0.length := by omega
    have hself : ∀ o, (hB.set (h0.length + 1) o)[h0.length + 1]? = some o := fun o => set_self hB1
    have fin : (i, q) = t → True := fun _ => trivial
    by_cases he : G.X i q = arc
    ·by_cases hb : (!outB (s i) q) = inn
     ·have htt := hit.1 ⟨he, hb⟩
      have hb' : (outB (s i) q == !inn) = true := by rw [← hb]; simp
      simp [g1, g2, g3, g6, g7, g8, hq', rd_def, hB0, hi, hr, he, rdN_def, hcr, DC_q hin, hb, wrN_def, hB1, hmin, hself, back_scalar, Out.scalar, scalar, flat1, flat]
      rw [← htt]
      rfl
     ·have hne : (i, q) ≠ t := fun e => hb (hit.2 e).2
      have hb2 : ((!outB (s i) q) == inn) = false := by simpa using hb
      have hne2 : 4 * i + q ≠ 4 * t.1 + t.2 := fun e => hne (Prod.ext (by simp only; omega) (by simp only; omega))
      simp [g1, g2, g3, g6, g7, g8, hq', rd_def, hB0, hi, hr, he, rdN_def, hcr, DC_q hin, hb2, hw]
      exact ⟨kk' - 1, by omega, q + 1, by omega, by omega, by omega⟩
    ·have hne : (i, q) ≠ t := fun e => he (hit.2 e).1
     have hne2 : 4 * i + q ≠ 4 * t.1 + t.2 := fun e => hne (Prod.ext (by simp only; omega) (by simp only; omega))
     simp [g1, g2, g3, g6, g7, g8, hq', rd_def, hB0, hi, hr, he, hw]
     exact ⟨kk' - 1, by omega, q + 1, by omega, by omega, by omega⟩
   ·have hq4 : q = 4 := by omega
    subst hq4
    have hw : IntKind.i64.wrap ((i : Int) + 1) = (i : Int) + 1 := by rw [w64_id] <;> omega
    simp [g1, g2, g3, g6, g7, g8, hw]
    exact ⟨kk - 1, by omega, i + 1, by omega, by omega, by omega⟩
  ·exact ⟨0, by omega, rfl, by omega, by simp [g1, g2, g3, g6, g7]⟩
 ·exact ⟨0, by omega, rfl, by omega, by simp⟩
end Go.Proofs.Ytjlkndkedknocaa
namespace Go.Proofs.Ytjlkndkedknocaa
open Go Go.Ai
attribute [local instance] Classical.propDecidable
theorem DC_when {E : Env} {f : FuncId} {args : List Value} {o : Out} {P : List O → Prop} (hq : ∀ h, P h → DR E f args ⟨h, h.length⟩ o ⟨h, h.length⟩) {h : List O} {fl : Nat} (hp : P h) (e : fl = h.length) {Q : Out → St → Prop} : DC E f args ⟨h, fl⟩ Q ↔ Q o ⟨h, fl⟩ := by
 subst e; exact DC_of (hq h hp)
variable {E : Env} (hE : OE E)
include hE
theorem other_ {h0 : List O} {a : Option Addr} {n c : Nat} {x : Nat → Nat → Int} {s : Nat → Int} {L : Int} (hx : CrossP h0 a n x s) (hS : Snd n x s L) {e : Nat × Nat} (he : InV (dgOf n x s L) e) :
  DR E 229 [dV a n c L, endV e] ⟨h0, h0.length⟩ (.ret (endV (oth (dgOf n x s L) e))) ⟨h0, h0.length⟩ := by
 refine hE.fn (body := rb229) rfl ?_
 unfold rb229
 have hc : ∀ l, CrossP (h0 ++ l) a n x s := fun l => hx.ext (Ext.snoc h0 l)
 have hG := good_of hS
 have hxe : x e.1 e.2 = (dgOf n x s L).X e.1 e.2 := sound_x hS he.1 he.2.1
 obtain ⟨he1, he2, he3⟩ := id he
 have hsg := hG.sign e.1 he1
 have h1 := fun h k => end_ hE (h0 := h) (a := a) (x := x) (c := c) k hS he3 (outB (s e.1) e.2)
 have hto := tgt_oth hG he
 rw [show (dgOf n x s L).s = s from rfl] at hto
 simp only [hto] at h1
 have hin := fun h => In_ hE (h := h) (x := x e.1) (s := s e.1) hsg he2
 simp only [dV, endV, crossV] at h1 hin
 obtain ⟨xb, xo, hxa, hxr⟩ := hx
 have he1' : e.1 < n := he1
 obtain rfl := hxa (by omega)
 obtain ⟨rq, rs⟩ := CrossP.reads hxr he1'
 have hcr := hxr _ he1'
 have r1 : ∀ l, rd (h0 ++ l) xb (xo + e.1 * 5 + e.2) = some (.int .i64 ((dgOf n x s L).X e.1 e.2)) := fun l => by rw [← hxe]; exact rd_append (rq _ he2) l
 have r2 : ∀ l, rdN (h0 ++ l) xb (xo + e.1 * 5) 5 = some (crossC (x e.1) (s e.1)) := fun l => rdN_append hcr l
 simp only [crossC] at r2
 have he2' : (e.2 : Int) < 4 := by omega
 simp [dV, endV, rdN_at0, rd_at0, List.append_assoc, he1', he2', r1, r2, rd_at, rdN_at, DC_when h1, DC_q hin, hc, joined_fl, wrN_at, set_at, back_scalar, Out.scalar, scalar, flat1, flat]
 exact ⟨by decide, by decide, fun h => absurd h (by decide), fun h => absurd h (by decide)⟩
end Go.Proofs.Ytjlkndkedknocaa
namespace Go.Proofs.Ytjlkndkedknocaa
open Go Go.Ai
attribute [local instance] Classical.propDecidable
variable {E : Env} (hE : OE E)
include hE
end Go.Proofs.Ytjlkndkedknocaa
namespace Go.Proofs.Ytjlkndkedknocaa
open Go Go.Ai
attribute [local instance] Classical.propDecidable
variable {E : Env} (hE : OE E)
include hE
end Go.Proofs.Ytjlkndkedknocaa
namespace Go.Ai
theorem slice_read {h : List O} {b size n : Nat} {cs : List Value} {el : TypeId} {own : Option Nat} (hb : h[b]? = some (.cells cs el own)) (hl : cs.length = n * size) : readSlice h size n (some ⟨b, 0, none⟩) = some cs := by
 simp only [readSlice]
 split
 ·rename_i h0'
  have : cs = [] := List.length_eq_zero_iff.1 (by omega)
  rw [this]
 ·simp [rdN, hb, hl]
  exact List.take_of_length_le (by omega)
def OwnT (h : List O) (lo : Nat) (v : Value) (k : Nat) (cs : List Value) (el : TypeId) (size : Nat) : Prop := (v = emptyS ∧ k = 0 ∧ cs = []) ∨ OwnS h lo v k cs el size
theorem OwnT.keep {h h' : List O} {lo k : Nat} {v : Value} {cs : List Value} {el : TypeId} {size : Nat} (ho : OwnT h lo v k cs el size) (hk : ∀ b s, v = .slice (some ⟨b, 0, none⟩) k k → lo ≤ b → h[b]? = some (.cells cs el (some s)) → h'[b]? = some (.cells cs el (some s))) : OwnT h' lo v k cs el size := by
 rcases ho with h1 | ⟨h0, h1 | ⟨b, s, h1, h2, h3, h4⟩⟩
 ·exact .inl h1
 ·exact .inr ⟨h0, .inl h1⟩
 ·exact .inr ⟨h0, .inr ⟨b, s, h1, h2, hk b s h1 h2 h3, h4⟩⟩
theorem OwnT.len {h : List O} {lo k : Nat} {v : Value} {cs : List Value} {el : TypeId} {size : Nat} (ho : OwnT h lo v k cs el size) : cs.length = k * size := by
 rcases ho with ⟨_, rfl, rfl⟩ | h1
 ·simp
 ·exact h1.1
theorem OwnT.look {h : List O} {lo k : Nat} {v : Value} {cs : List Value} {el : TypeId} {size : Nat} (ho : OwnT h lo v k cs el size) : ∃ a, v = .slice a k k ∧ (0 < k → ∃ b s, a = some ⟨b, 0, none⟩ ∧ lo ≤ b ∧ h[b]? = some (.cells cs el (some s))) := by
 rcases ho with ⟨rfl, rfl, rfl⟩ | ⟨_, ⟨rfl, rfl⟩ | ⟨b, s, rfl, h2, h3, h4⟩⟩
 ·exact ⟨_, rfl, fun h => absurd h (by omega)⟩
 ·exact ⟨_, rfl, fun h => absurd h (by omega)⟩
 ·exact ⟨_, rfl, fun _ => ⟨b, s, rfl, h2, h3⟩⟩
theorem append_T {H : List O} {lo k n fl c : Nat} {v : Value} {cs new : List Value} {el : TypeId} {size bytes : Nat} {xb : Option Addr}
  (ho : OwnT H lo v k cs el size) (hx : readSlice H size n xb = some new) (hnew : new.length = n * size) (hone : new.all one1 = true) (hlo : lo ≤ H.length) (hroom : (k + n) * bytes ≤ roomMax) (hn : 0 < n) :
  ∃ b' H' fl', appendV el size bytes v (.slice xb n c) ⟨H, fl⟩ = some (.slice (some ⟨b', 0, none⟩) (k + n) (k + n), ⟨H', fl'⟩) ∧ H.length ≤ b' ∧ OwnT H' lo (.slice (some ⟨b', 0, none⟩) (k + n) (k + n)) (k + n) (cs ++ new) el size ∧ min fl lo ≤ fl' ∧ fl' ≤ fl ∧ H.length ≤ H'.length ∧
   (∀ (b : Nat) (o : O), H[b]? = some o → (b < lo ∨ ∀ c : List Value, ∀ s, o ≠ .cells c el s) → H'[b]? = some o) := by
 rcases ho with ⟨rfl, rfl, rfl⟩ | ho
 ·refine ⟨H.length, H ++ [.cells ([] ++ new) el (some size)], fl, ?_, Nat.le_refl _, .inr ⟨?_, .inr ⟨H.length, size, rfl, hlo, ?_, .inr rfl⟩⟩, by omega, Nat.le_refl _, by simp, fun b o e _ => app_of e _⟩
  ·simp only [appendV, emptyS, hx, bind, Option.bind_some, appendCells]
   rw [if_neg (by omega), if_neg (by omega), if_pos ⟨hroom, hone⟩]
   simp [readSlice, kill]
  ·simp [hnew]
  ·simp
 ·obtain ⟨b', H', fl', h1, h2, h3, h4, h5, h6, h7⟩ := append_S (fl := fl) (c := c) (bytes := bytes) ho hx hnew hone hlo hroom hn
  refine ⟨b', H', fl', h1, h2, .inr h3, h4, h5, h6, fun b o e hd => h7 b o e fun n' c' ev => ?_⟩
  subst ev
  rcases ho.2 with ⟨e1, _⟩ | ⟨b2, s, e1, e2, e3, _⟩
  ·cases e1
  ·simp only [Value.slice.injEq, Option.some.injEq, Addr.mk.injEq] at e1
   obtain ⟨⟨rfl, _⟩, _⟩ := e1
   rw [e3] at e
   obtain rfl := Option.some.inj e
   rcases hd with hd | hd
   ·omega
   ·exact hd _ _ rfl
end Go.Ai
namespace Go.Proofs.Ytjlkndkedknocaa
open Go Go.Ai
attribute [local instance] Classical.propDecidable
theorem cellsL_length (l : List (Nat × Nat)) : (cellsL l).length = l.length * 2 := by
 induction l with
 | nil => rfl
 | cons x l ih =>
  have : cellsL (x :: l) = cells2 x ++ cellsL l := rfl
  rw [this, List.length_append, ih]; simp [cells2]; omega
theorem cellsL_at {l : List (Nat × Nat)} {j : Nat} {x : Nat × Nat} (h : l[j]? = some x) : ((cellsL l).drop (j * 2)).take 2 = cells2 x := by
 induction l generalizing j with
 | nil => simp at h
 | cons y l ih =>
  have e : cellsL (y :: l) = .int .i64 y.1 :: .int .i64 y.2 :: cellsL l := rfl
  rw [e]
  cases j with
  | zero => simp at h; subst h; rfl
  | succ j =>
   rw [show (j + 1) * 2 = j * 2 + 2 by omega, List.drop_succ_cons, List.drop_succ_cons]
   exact ih (by simpa using h)
theorem orbN_at {G : Dg} {e : Nat × Nat} {i j : Nat} (h : j < i) : (orbN G e i)[j]? = some (orb G e j) := by simp [orbN, h]
variable {E : Env} (hE : OE E)
include hE
theorem has_ {h : List O} {b n c : Nat} {l : List (Nat × Nat)} {el : TypeId} {own : Option Nat} (hb : 0 < n → h[b]? = some (.cells (cellsL l) el own)) (hn : l.length = n) (hlt : n < 1000000) (e : Nat × Nat) :
  DR E 225 [.slice (some ⟨b, 0, none⟩) n c, endV e] ⟨h, h.length⟩ (.ret (.bool (decide (e ∈ l)))) ⟨h, h.length⟩ := by
 refine hE.fn (body := rb225) rfl ?_
 unfold rb225
 simp [endV]
 obtain ⟨hB, hhB⟩ : ∃ H, H = h ++ [O.cells [.int .i64 e.1, .int .i64 e.2] 72 (some 0)] := ⟨_, rfl⟩
 have sB : Sub h hB := by rw [hhB]; exact (Sub.refl _).app _
 have bB : hB[h.length]? = some (O.cells [.int .i64 e.1, .int .i64 e.2] 72 (some 0)) := by rw [hhB, app_at0]; rfl
 rw [← hhB]
 have hcl := cellsL_length l
 refine DW_loop (fun kk fr st => ∃ (i : Nat), i + kk = n ∧ st = ⟨hB, h.length⟩ ∧ (∀ j, j < i → l[j]? ≠ some e) ∧ get fr 0 = .slice (some ⟨b, 0, none⟩) n c ∧ get fr 3 = .pointer (some ⟨h.length, 0, none⟩) ∧ get fr 5 = .int .i64 i) ?_ (k := n) ?_
 ·rintro kk fr st ⟨i, hik, rfl, hm, g0, g3, g5⟩
  by_cases hi : i < n
  ·have hw : IntKind.i64.wrap ((i : Int) + 1) = (i : Int) + 1 := by rw [w64_id] <;> omega
   obtain ⟨y, hy⟩ : ∃ y, l[i]? = some y := ⟨l[i], by simp⟩
   have hat := sB _ _ (hb (by omega))
   have hc := cellsL_at hy
   simp only [cells2] at hc
   have hle : i * 2 + 2 ≤ (cellsL l).length := by omega
   by_cases hv : y = e
   ·subst hv
    simp [g0, g3, g5, hi, rdN_def, hat, bB, hc, hle, back_scalar, Out.scalar, scalar, flat1, flat]
    exact List.mem_of_getElem? hy
   ·have hv' : (decide (y.1 = e.1) && decide (y.2 = e.2)) = false := by
     rw [Bool.and_eq_false_iff, decide_eq_false_iff_not, decide_eq_false_iff_not]
     by_cases h1 : y.1 = e.1
     ·exact .inr fun h2 => hv (Prod.ext h1 h2)
     ·exact .inl h1
    simp [g0, g3, g5, hi, rdN_def, hat, bB, hc, hle, hw, hv']
    refine ⟨kk - 1, by omega, i + 1, by omega, fun j hj => ?_, by omega⟩
    by_cases ej : j = i
    ·rw [ej, hy]; exact fun e' => hv (Option.some.inj e')
    ·exact hm j (by omega)
  ·have hin : i = n := by omega
   subst hin
   simp [g0, g3, g5, back_scalar, Out.scalar, scalar, flat1, flat]
   intro hmem
   obtain ⟨j, hj, hje⟩ := List.getElem_of_mem hmem
   exact hm j (by omega) (by rw [List.getElem?_eq_getElem hj, hje])
 ·exact ⟨0, by omega, rfl, fun j h => by omega, by simp⟩
end Go.Proofs.Ytjlkndkedknocaa
namespace Go.Proofs.Ytjlkndkedknocaa
open Go Go.Ai
attribute [local instance] Classical.propDecidable
variable {E : Env} (hE : OE E)
include hE
theorem region_ {h0 : List O} {a : Option Addr} {n c : Nat} {x : Nat → Nat → Int} {s : Nat → Int} {L : Int} (hx : CrossP h0 a n x s) (hS : Snd n x s L) {e : Nat × Nat} (he : InV (dgOf n x s L) e) :
  DC E 199 [dV a n c L, endV e] ⟨h0, h0.length⟩ fun o st' => ∃ v, o = .ret v ∧ h0.length ≤ st'.fl ∧ Sub h0 st'.h ∧ OwnS st'.h h0.length v (per (dgOf n x s L) e) (cellsL (orbL (dgOf n x s L) e)) 72 2 := by
 refine hE.fnC (body := rb199) rfl ?_
 unfold rb199
 have hG := good_of hS
 have hoth := fun {y : Nat × Nat} (hy : InV (dgOf n x s L) y) h k => other_ hE (h0 := h) (a := a) (x := x) (c := c) k hS hy
 simp only [dV, endV] at hoth
 obtain ⟨G, hGe⟩ : ∃ G, G = dgOf n x s L := ⟨_, rfl⟩
 rw [← hGe] at hG he ⊢
 simp only [← hGe] at hoth
 have hGn : G.n = n := by rw [hGe]; rfl
 have hsz := hG.size
 obtain ⟨⟨hm, hmend, hm4⟩, hmid⟩ := per_spec hG he
 simp [dV, endV, rdN_at0, rdN_at, List.append_assoc]
 obtain ⟨hB, hhB⟩ : ∃ H, H = h0 ++ [O.cells [.slice a n c, .int .i64 L] 24 (some 0), O.cells [.int .i64 e.1, .int .i64 e.2] 72 (some 0)] := ⟨_, rfl⟩
 have lB : hB.length = h0.length + 2 := by rw [hhB]; simp
 have sB : Sub h0 hB := by rw [hhB]; exact (Sub.refl _).app _
 have bB : hB[h0.length]? = some (O.cells [.slice a n c, .int .i64 L] 24 (some 0)) := by rw [hhB, app_at0]; rfl
 have bE : hB[h0.length + 1]? = some (O.cells [.int .i64 e.1, .int .i64 e.2] 72 (some 0)) := by rw [hhB, app_at]; rfl
 refine DW_loop (fun kk fr st => ∃ (i : Nat) (h : List O) (bi : Nat), i + kk = per G e ∧ 0 < i ∧ st = ⟨h, h0.length⟩ ∧ Sub hB h ∧ OwnS h hB.length (.slice (some ⟨bi, 0, none⟩) i i) i (cellsL (orbN G e i)) 72 2 ∧ get fr 2 = .pointer (some ⟨h0.length, 0, none⟩) ∧ get fr 3 = .pointer (some ⟨h0.length + 1, 0, none⟩) ∧ get fr 5 = .slice (some ⟨bi, 0, none⟩) i i) ?_ (k := per G e - 1) ?_
 ·rintro kk fr st ⟨i, h, bi, hik, hi0, rfl, hsub, hown, g2, g3, g5⟩
  have hsl := hsub.len
  obtain ⟨hlo, sz, hcell⟩ := hown.at_
  obtain ⟨j, rfl⟩ : ∃ j, i = j + 1 := ⟨i - 1, by omega⟩
  have hy := orb_inV hG he j
  have hot := hoth hy
  have hcat : ((cellsL (orbN G e (j + 1))).drop (j * 2)).take 2 = [.int .i64 (orb G e j).1, .int .i64 (orb G e j).2] := cellsL_at (orbN_at (Nat.lt_succ_self j))
  have hcl : j * 2 + 2 ≤ (cellsL (orbN G e (j + 1))).length := by rw [cellsL_length, orbN_length]; omega
  have hon := oth_spec hG hy
  have h2lt := hon.1.2.1
  obtain ⟨o1, ho1⟩ : ∃ o1, o1 = oth G (orb G e j) := ⟨_, rfl⟩
  have hg : orb G e (j + 1) = (o1.1, (o1.2 + 3) % 4) := by rw [ho1]; rfl
  rw [← ho1] at hot h2lt
  have hb2 : h[h0.length]? = some (O.cells [.slice a n c, .int .i64 L] 24 (some 0)) := hsub _ _ bB
  have hbe : h[h0.length + 1]? = some (O.cells [.int .i64 e.1, .int .i64 e.2] 72 (some 0)) := hsub _ _ bE
  have hcs : CrossP h a n x s := hx.sub (sB.trans hsub)
  have hwm : IntKind.i64.wrap (j : Int) = j := by rw [w64_id] <;> omega
  have hwp : IntKind.i64.wrap ((o1.2 : Int) + 3) = (o1.2 : Int) + 3 := by rw [w64_id] <;> omega
  have hmod : ((o1.2 : Int) + 3).tmod 4 = ((o1.2 + 3) % 4 : Nat) := tmod_add _ 3 4
  obtain ⟨w, hww⟩ : ∃ w, w = (o1.2 + 3) % 4 := ⟨_, rfl⟩
  rw [← hww] at hmod hg
  have hj1 : (j : Int) < (j : Int) + 1 := by omega
  have hE1 : ∀ l, (h ++ l)[h0.length + 1]? = some (O.cells [.int .i64 e.1, .int .i64 e.2] 72 (some 0)) := fun l => app_of hbe l
  have hmin : min h0.length h.length = h0.length := by omega
  have hmin2 : min h0.length (h.length + 1) = h0.length := by omega
  have hdec : (Nat.testBit 511 7 = true ∧ (Nat.testBit 511 6 = false → ¬h.length = bi) ∧ (Nat.testBit 511 3 = false → ¬h.length = bi)) := ⟨by decide, fun h => absurd h (by decide), fun h => absurd h (by decide)⟩
  by_cases hend : orb G e (j + 1) = e
  ·have hper : j + 1 = per G e := by
    apply Classical.byContradiction
    intro hne
    exact hmid (j + 1) (by omega) (by omega) hend
   have he1 : o1.1 = e.1 ∧ w = e.2 := by rw [hg] at hend; rw [← hend]; exact ⟨rfl, rfl⟩
   obtain ⟨e1, e2⟩ := he1
   simp [g2, g3, g5, rd_def, rdN_def, hb2, hcell, hcl, hcat, hwm, hj1, DC_when hot, hcs, joined_fl, wrN_at0, set_at0, wrN_at, set_at, app_at0, app_at, hwp, hmod, hE1, List.append_assoc, e1, e2, endK_ret, hmin, hmin2]
   refine ⟨hdec, ?_⟩
   unfold pairQ back
   rw [if_neg (by simp [Out.scalar, scalar, flat1, flat])]
   refine ⟨_, rfl, Nat.le_refl _, (sB.trans hsub).app _, ?_⟩
   have ho2 : OwnS (h ++ [O.cells [.int .i64 e.1, .int .i64 o1.2] 72 (some 0), O.cells [.int .i64 e.1, .int .i64 e.2] 72 (some 0)]) hB.length (.slice (some ⟨bi, 0, none⟩) (j + 1) (j + 1)) (j + 1) (cellsL (orbN G e (j + 1))) 72 2 := hown.keep fun b s _ k => app_of k _
   rw [show orbL G e = orbN G e (j + 1) by rw [hper]; rfl, ← hper]
   obtain ⟨q1, q2⟩ := ho2
   rcases q2 with q2 | ⟨b, s', q2, q3, q4, q5⟩
   ·exact ⟨q1, .inl q2⟩
   ·exact ⟨q1, .inr ⟨b, s', q2, by omega, q4, q5⟩⟩
  ·have hne : (decide (o1.1 = e.1) && decide (w = e.2)) = false := by
    rw [Bool.and_eq_false_iff, decide_eq_false_iff_not, decide_eq_false_iff_not]
    by_cases h1 : o1.1 = e.1
    ·exact .inr fun h2 => hend (by rw [hg]; exact Prod.ext h1 h2)
    ·exact .inl h1
   have hjp : j + 1 < per G e := by
    rcases Nat.lt_or_ge (j + 1) (per G e) with h | h
    ·exact h
    ·exact absurd (by rw [show j + 1 = per G e by omega]; exact hmend) hend
   obtain ⟨H3, hH3⟩ : ∃ H, H = h ++ [O.cells [.int .i64 o1.1, .int .i64 o1.2] 72 (some 0), O.cells [.int .i64 o1.1, .int .i64 w] 72 (some 0), O.cells [.int .i64 o1.1, .int .i64 w] 72 (some 0)] := ⟨_, rfl⟩
   have S3 : Sub h H3 := by rw [hH3]; exact (Sub.refl _).app _
   have ho3 : OwnS H3 hB.length (.slice (some ⟨bi, 0, none⟩) (j + 1) (j + 1)) (j + 1) (cellsL (orbN G e (j + 1))) 72 2 := hown.keep fun b s _ k => S3 _ _ k
   have hrd : readSlice H3 2 1 (some ⟨h.length + 2, 0, none⟩) = some [.int .i64 o1.1, .int .i64 w] := slice_read (by rw [hH3, app_at]; rfl) rfl
   have l3 : h.length ≤ H3.length := S3.len
   obtain ⟨b', H4, f4, happ, hb', hown4, hf1, hf2, hl4, hk4⟩ := append_S (fl := h0.length) (c := 1) (bytes := 16) ho3 hrd rfl rfl (by omega) (by simp only [roomMax]; omega) (by omega)
   have hf4 : f4 = h0.length := by omega
   have hdrop : ∀ (l : List (Nat × Nat)) (y : Nat × Nat), cellsL l ++ [.int .i64 y.1, .int .i64 y.2] = cellsL (l ++ [y]) := fun l y => (cellsL_app l y).symm
   simp [g2, g3, g5, rd_def, rdN_def, hb2, hcell, hcl, hcat, hwm, hj1, DC_when hot, hcs, joined_fl, wrN_at0, set_at0, wrN_at, set_at, app_at0, app_at, hwp, hmod, hE1, List.append_assoc, hne, endK_ret, hmin, hmin2, ← hH3, happ, hf4]
   refine ⟨hdec, kk - 1, by omega, j + 1 + 1, by omega, by omega, fun b o hb => hk4 b o (S3 _ _ (hsub _ _ hb)) fun n' c' ev => ?_, b', ?_, rfl, rfl⟩
   ·have := (List.getElem?_eq_some_iff.1 hb).1
    simp only [Value.slice.injEq, Option.some.injEq, Addr.mk.injEq] at ev
    omega
   ·rw [orbN_succ, hg, cellsL_app]
    exact hown4
 ·refine ⟨1, h0 ++ [O.cells [.slice a n c, .int .i64 L] 24 (some 0), O.cells [.int .i64 e.1, .int .i64 e.2] 72 (some 0), O.cells [.int .i64 e.1, .int .i64 e.2] 72 (some 0)], h0.length + 2, by omega, by omega, rfl, ?_, ?_, ?_⟩
  ·rw [hhB]; exact Ext.sub ⟨[O.cells [.int .i64 e.1, .int .i64 e.2] 72 (some 0)], by simp⟩
  ·refine ⟨rfl, .inr ⟨_, 0, rfl, by omega, ?_, .inl rfl⟩⟩
   rw [app_at]; rfl
  ·simp
end Go.Proofs.Ytjlkndkedknocaa
namespace Go.Proofs.Ytjlkndkedknocaa
open Go Go.Ai
attribute [local instance] Classical.propDecidable
def RegsQ (h : List O) (lo : Nat) (v : Value) (L : List (List (Nat × Nat))) : Prop :=
 ∃ vs, OwnT h lo v L.length vs 215 1 ∧ ∀ (i : Nat) r, L[i]? = some r → ∃ v', vs[i]? = some v' ∧ OwnS h lo v' r.length (cellsL r) 72 2
theorem RegsQ.keep {h h' : List O} {lo : Nat} {v : Value} {L : List (List (Nat × Nat))} (k : RegsQ h lo v L) (hk : Sub h h') : RegsQ h' lo v L := by
 obtain ⟨vs, h1, h2⟩ := k
 refine ⟨vs, h1.keep fun b s _ _ e => hk _ _ e, fun i r hr => ?_⟩
 obtain ⟨v', h3, h4⟩ := h2 i r hr
 exact ⟨v', h3, h4.keep fun b s _ e => hk _ _ e⟩
theorem RegsQ.low {h : List O} {lo lo' : Nat} {v : Value} {L : List (List (Nat × Nat))} (k : RegsQ h lo v L) (hl : lo' ≤ lo) : RegsQ h lo' v L := by
 have low : ∀ {v k cs el size}, OwnS h lo v k cs el size → OwnS h lo' v k cs el size := fun ⟨h0, h1⟩ => by
  rcases h1 with h1 | ⟨b, s, h1, h2, h3⟩
  ·exact ⟨h0, .inl h1⟩
  ·exact ⟨h0, .inr ⟨b, s, h1, Nat.le_trans hl h2, h3⟩⟩
 obtain ⟨vs, h1, h2⟩ := k
 refine ⟨vs, ?_, fun i r hr => ?_⟩
 ·rcases h1 with h1 | h1
  ·exact .inl h1
  ·exact .inr (low h1)
 ·obtain ⟨v', h3, h4⟩ := h2 i r hr
  exact ⟨v', h3, low h4⟩
theorem RegsQ.at_ {h : List O} {lo : Nat} {v : Value} {L : List (List (Nat × Nat))} (k : RegsQ h lo v L) : ∃ a, v = .slice a L.length L.length ∧
  ∀ (i : Nat) r, L[i]? = some r → r ≠ [] → ∃ b b' s s' vs, a = some ⟨b, 0, none⟩ ∧ lo ≤ b ∧ lo ≤ b' ∧ h[b]? = some (.cells vs 215 (some s)) ∧ vs[i]? = some (.slice (some ⟨b', 0, none⟩) r.length r.length) ∧ h[b']? = some (.cells (cellsL r) 72 (some s')) := by
 obtain ⟨vs, h1, h2⟩ := k
 obtain ⟨a, rfl, ha⟩ := h1.look
 refine ⟨a, rfl, fun i r hr hne => ?_⟩
 have hi := (List.getElem?_eq_some_iff.1 hr).1
 obtain ⟨b, s, rfl, hb1, hb2⟩ := ha (by omega)
 obtain ⟨v', h3, h4, h5⟩ := h2 i r hr
 rcases h5 with ⟨_, h6⟩ | ⟨b', s', rfl, h7, h8, _⟩
 ·exact absurd (List.length_eq_zero_iff.1 h6) hne
 ·exact ⟨b, b', s, s', vs, rfl, hb1, h7, hb2, h3, h8⟩
theorem RegsQ.push {h : List O} {lo fl c : Nat} {v v' : Value} {xb : Option Addr} {L : List (List (Nat × Nat))} {r : List (Nat × Nat)} (k : RegsQ h lo v L) (ho : OwnS h lo v' r.length (cellsL r) 72 2) (hx : readSlice h 1 1 xb = some [v']) (hone : one1 v' = true) (hlo : lo ≤ h.length) (hroom : (L.length + 1) * 24 ≤ roomMax) :
  ∃ b' h' fl', appendV 215 1 24 v (.slice xb 1 c) ⟨h, fl⟩ = some (.slice (some ⟨b', 0, none⟩) (L.length + 1) (L.length + 1), ⟨h', fl'⟩) ∧ RegsQ h' lo (.slice (some ⟨b', 0, none⟩) (L.length + 1) (L.length + 1)) (L ++ [r]) ∧ min fl lo ≤ fl' ∧ fl' ≤ fl ∧ h.length ≤ h'.length ∧
   (∀ (b : Nat) (o : O), h[b]? = some o → (b < lo ∨ ∀ c : List Value, ∀ s, o ≠ .cells c 215 s) → h'[b]? = some o) := by
 obtain ⟨vs, h1, h2⟩ := k
 have hl := h1.len
 obtain ⟨b', h', fl', e1, e2, e3, e4, e5, e6, hs⟩ := append_T (fl := fl) (c := c) (bytes := 24) h1 hx rfl (by simp [hone]) hlo hroom (by omega)
 have keep : ∀ {v k cs}, OwnS h lo v k cs 72 2 → OwnS h' lo v k cs 72 2 := fun h => h.keep fun b s _ e => hs _ _ e (.inr fun c s' e' => by cases e')
 refine ⟨b', h', fl', e1, ⟨vs ++ [v'], by rw [List.length_append]; exact e3, fun i q hq => ?_⟩, e4, e5, e6, hs⟩
 by_cases hi : i < L.length
 ·rw [List.getElem?_append_left hi] at hq
  obtain ⟨v2, h3, h4⟩ := h2 i q hq
  exact ⟨v2, by rw [List.getElem?_append_left (by omega)]; exact h3, keep h4⟩
 ·rw [List.getElem?_append_right (by omega)] at hq
  have e0 : i - L.length = 0 := by
   rcases Nat.eq_zero_or_pos (i - L.length) with h | h
   ·exact h
   ·rw [List.getElem?_eq_none (by simp; omega)] at hq; cases hq
  rw [e0] at hq
  obtain rfl := Option.some.inj hq
  exact ⟨v', by rw [List.getElem?_append_right (by omega), show i - vs.length = 0 by omega]; rfl, keep ho⟩
theorem OwnS.low {h : List O} {lo lo' k : Nat} {v : Value} {cs : List Value} {el : TypeId} {size : Nat} (ho : OwnS h lo v k cs el size) (hl : lo' ≤ lo) : OwnS h lo' v k cs el size := by
 obtain ⟨h0, h1⟩ := ho
 rcases h1 with h1 | ⟨b, s, h1, h2, h3⟩
 ·exact ⟨h0, .inl h1⟩
 ·exact ⟨h0, .inr ⟨b, s, h1, Nat.le_trans hl h2, h3⟩⟩
theorem RegsQ.scalar {h : List O} {lo : Nat} {v : Value} {L : List (List (Nat × Nat))} (k : RegsQ h lo v L) (hs : Ai.scalar v = true) : L = [] ∧ ∀ h', RegsQ h' lo v L := by
 obtain ⟨vs, h1, h2⟩ := k
 rcases h1 with ⟨rfl, h3, rfl⟩ | ⟨h4, ⟨rfl, h5⟩ | ⟨b, s, rfl, h6⟩⟩
 ·have : L = [] := List.length_eq_zero_iff.1 h3
  subst this
  exact ⟨rfl, fun h' => ⟨[], .inl ⟨rfl, rfl, rfl⟩, fun i r h => by simp at h⟩⟩
 ·have : L = [] := List.length_eq_zero_iff.1 h5
  subst this
  exact ⟨rfl, fun h' => ⟨vs, .inr ⟨h4, .inl ⟨rfl, rfl⟩⟩, fun i r h => by simp at h⟩⟩
 ·simp [Ai.scalar, flat1, flat] at hs
theorem vis_flat (G : Dg) (e : Nat × Nat) : ∀ j, e ∈ (vis G j).1 ↔ ∃ (i : Nat) (r : List (Nat × Nat)), (vis G j).2[i]? = some r ∧ e ∈ r := by
 have hfl : ∀ j, (vis G j).1 = (vis G j).2.flatten := by
  intro j
  induction j with
  | zero => rfl
  | succ j ih =>
   simp only [vis]
   by_cases hx : endOf j ∈ (vis G j).1
   ·rw [if_pos hx]; exact ih
   ·rw [if_neg hx]; simp [ih]
 intro j
 rw [hfl, List.mem_flatten]
 constructor
 ·rintro ⟨r, hr, he⟩
  obtain ⟨i, hi, rfl⟩ := List.getElem_of_mem hr
  exact ⟨i, _, List.getElem?_eq_getElem hi, he⟩
 ·rintro ⟨i, r, hr, he⟩
  exact ⟨r, List.mem_of_getElem? hr, he⟩
theorem vis_ne {G : Dg} (hG : GoodG G) {j i : Nat} (hj : j ≤ 4 * G.n) {r : List (Nat × Nat)} (h : (vis G j).2[i]? = some r) : r ≠ [] ∧ r.length ≤ 4 * G.n := by
 obtain ⟨e, he, rfl⟩ := vis_reg hG j hj r (List.mem_of_getElem? h)
 have := per_spec hG he
 have hl : (orbL G e).length = per G e := orbN_length _ _ _
 refine ⟨fun h0 => ?_, by rw [hl]; exact this.1.2.2⟩
 rw [h0] at hl
 simp at hl
 omega
end Go.Proofs.Ytjlkndkedknocaa
namespace Go.Proofs.Ytjlkndkedknocaa
open Go Go.Ai
attribute [local instance] Classical.propDecidable
variable {E : Env} (hE : OE E)
include hE
theorem regionsR_ {h0 : List O} {a : Option Addr} {n c : Nat} {x : Nat → Nat → Int} {s : Nat → Int} {L : Int} (hx : CrossP h0 a n x s) (hS : Snd n x s L) :
  DC E 175 [dV a n c L] ⟨h0, h0.length⟩ fun o st' => ∃ v, o = .ret v ∧ h0.length ≤ st'.fl ∧ Sub h0 st'.h ∧ RegsQ st'.h h0.length v (regs (dgOf n x s L)) := by
 refine hE.fnC (body := rb175) rfl ?_
 unfold rb175
 have hG := good_of hS
 have hreg := fun {y : Nat × Nat} (hy : InV (dgOf n x s L) y) h k => region_ hE (h0 := h) (a := a) (x := x) (c := c) k hS hy
 simp only [dV, endV] at hreg
 obtain ⟨G, hGe⟩ : ∃ G, G = dgOf n x s L := ⟨_, rfl⟩
 rw [← hGe] at hG ⊢
 simp only [← hGe] at hreg
 have hGn : G.n = n := by rw [hGe]; rfl
 have hsz := hG.size
 rw [hGn] at hsz
 obtain ⟨hB, hhB⟩ : ∃ H, H = h0 ++ [O.cells [.slice a n c, .int .i64 L] 24 (some 0)] := ⟨_, rfl⟩
 have lB : hB.length = h0.length + 1 := by rw [hhB]; simp
 have sB : Sub h0 hB := by rw [hhB]; exact (Sub.refl _).app _
 have bB : hB[h0.length]? = some (O.cells [.slice a n c, .int .i64 L] 24 (some 0)) := by rw [hhB, app_at0]; rfl
 simp [dV]
 rw [← hhB]
 refine DW_loop (fun kk fr st => ∃ (i : Nat) (h : List O) (v : Value), i + kk = n ∧ st = ⟨h, h0.length⟩ ∧ Sub hB h ∧ RegsQ h hB.length v (vis G (4 * i)).2 ∧ get fr 1 = .pointer (some ⟨h0.length, 0, none⟩) ∧ get fr 3 = v ∧ get fr 4 = .int .i64 i) ?_ (k := n) ?_
 ·rintro kk fr st ⟨i, h, v, hik, rfl, hsub, hR, g1, g3, g4⟩
  have hb2 : h[h0.length]? = some (O.cells [.slice a n c, .int .i64 L] 24 (some 0)) := hsub _ _ bB
  by_cases hi : i < n
  ·simp [g1, g3, g4, rd_def, hb2, hi]
   refine DW_loop (fun kk' fr st => ∃ (q : Nat) (h : List O) (v : Value), q + kk' = 4 ∧ st = ⟨h, h0.length⟩ ∧ Sub hB h ∧ RegsQ h hB.length v (vis G (4 * i + q)).2 ∧ get fr 1 = .pointer (some ⟨h0.length, 0, none⟩) ∧ get fr 3 = v ∧ get fr 4 = .int .i64 i ∧ get fr 5 = .int .i64 q) ?_ (k := 4) ?_
   ·clear hR g1 g3 g4 hb2 hsub
    clear v h
    rintro kk' fr st ⟨q, h, v, hqk, rfl, hsub, hR, g1, g3, g4, g5⟩
    by_cases hq : q < 4
    ·have hq' : (q : Int) < 4 := by omega
     have hvl := vis_len G (4 * i + q)
     obtain ⟨va, rfl, hat⟩ := hR.at_
     have hend : endOf (4 * i + q) = (i, q) := by unfold endOf; rw [Prod.mk.injEq]; omega
     have hinV : InV G (i, q) := hG.inV (by rw [hGn]; exact hi) hq
     obtain ⟨h1, hh1⟩ : ∃ H, H = h ++ [O.cells [.int .i64 i, .int .i64 q] 72 (some 0)] := ⟨_, rfl⟩
     have s1' : Sub h h1 := by rw [hh1]; exact (Sub.refl _).app _
     have b1 : h1[h.length]? = some (O.cells [.int .i64 i, .int .i64 q] 72 (some 0)) := by rw [hh1, app_at0]; rfl
     have hsl := hsub.len
     have hmin : min h0.length h.length = h0.length := by omega
     simp [g1, g3, g4, g5, hq', wrN_at0, set_at0, hmin]
     rw [← hh1]
     obtain ⟨N, hN⟩ : ∃ N, N = (vis G (4 * i + q)).2.length := ⟨_, rfl⟩
     rw [← hN] at g3 hvl
     refine DW_loop (fun kk'' fr st => ∃ (m : Nat), m + kk'' = N ∧ st = ⟨h1, h0.length⟩ ∧ get fr 1 = .pointer (some ⟨h0.length, 0, none⟩) ∧ get fr 3 = .slice va N N ∧ get fr 4 = .int .i64 i ∧ get fr 5 = .int .i64 q ∧ get fr 6 = .pointer (some ⟨h.length, 0, none⟩) ∧ get fr 7 = .bool (decide (∃ m', m' < m ∧ ∃ r, (vis G (4 * i + q)).2[m']? = some r ∧ (i, q) ∈ r)) ∧ get fr 8 = .int .i64 m) ?_ (k := N) ?_
     ·clear g1 g3 g4 g5
      rintro kk'' fr st ⟨m, hmk, rfl, g1, g3, g4, g5, g6, g7, g8⟩
      have hNlt : N ≤ 800 := by omega
      have hw : IntKind.i64.wrap ((m : Int) + 1) = (m : Int) + 1 := by rw [w64_id] <;> omega
      by_cases hm : m < N
      ·obtain ⟨r, hr⟩ : ∃ r, (vis G (4 * i + q)).2[m]? = some r := ⟨_, List.getElem?_eq_getElem (by omega)⟩
       obtain ⟨hne, hrl⟩ := vis_ne hG (j := 4 * i + q) (by omega) hr
       have hstep : (decide (∃ m', m' < m + 1 ∧ ∃ r, (vis G (4 * i + q)).2[m']? = some r ∧ (i, q) ∈ r)) = (decide (∃ m', m' < m ∧ ∃ r, (vis G (4 * i + q)).2[m']? = some r ∧ (i, q) ∈ r) || decide ((i, q) ∈ r)) := by
        rw [Bool.eq_iff_iff, Bool.or_eq_true, decide_eq_true_iff, decide_eq_true_iff, decide_eq_true_iff]
        constructor
        ·rintro ⟨m', h1, r', h2, h3⟩
         by_cases e : m' = m
         ·subst e
          rw [hr] at h2
          obtain rfl := Option.some.inj h2
          exact .inr h3
         ·exact .inl ⟨m', by omega, r', h2, h3⟩
        ·rintro (⟨m', h1, h2⟩ | h)
         ·exact ⟨m', by omega, h2⟩
         ·exact ⟨m, by omega, r, hr, h⟩
       by_cases hk : ∃ m', m' < m ∧ ∃ r, (vis G (4 * i + q)).2[m']? = some r ∧ (i, q) ∈ r
       ·rw [decide_eq_true hk] at g7 hstep
        rw [Bool.true_or] at hstep
        simp [g1, g3, g4, g5, g6, g7, g8, hm, hw]
        refine ⟨kk'' - 1, by omega, m + 1, by omega, ?_, by omega⟩
        exact of_decide_eq_true hstep
       ·rw [decide_eq_false hk] at g7 hstep
        rw [Bool.false_or] at hstep
        obtain ⟨b, b', s1, s2, vs, rfl, q1, q2, q3, q4, q5⟩ := hat m r hr hne
        have q3' := s1' _ _ q3
        have q5' := s1' _ _ q5
        have hh := fun h k => has_ hE (h := h) (b := b') (n := r.length) (c := r.length) (l := r) (el := 72) (own := some s2) (fun _ => k) rfl (by omega) (i, q)
        simp only [endV] at hh
        simp [g1, g3, g4, g5, g6, g7, g8, hm, hw, rd_def, rdN_def, q3', q4, b1, DC_when hh, q5', joined_fl]
        refine ⟨kk'' - 1, by omega, m + 1, by omega, ?_, by omega⟩
        exact (decide_eq_decide.1 hstep).symm
      ·have hin : m = N := by omega
       subst hin
       have hkn : (∃ m', m' < m ∧ ∃ r, (vis G (4 * i + q)).2[m']? = some r ∧ (i, q) ∈ r) ↔ (i, q) ∈ (vis G (4 * i + q)).1 := by
        rw [vis_flat]
        constructor
        ·rintro ⟨m', _, h⟩; exact ⟨m', h⟩
        ·rintro ⟨m', r, h1, h2⟩
         exact ⟨m', by rw [hN]; exact (List.getElem?_eq_some_iff.1 h1).1, r, h1, h2⟩
       have hwq : IntKind.i64.wrap ((q : Int) + 1) = (q : Int) + 1 := by rw [w64_id] <;> omega
       by_cases hk : (i, q) ∈ (vis G (4 * i + q)).1
       ·rw [decide_eq_true (hkn.2 hk)] at g7
        have hv : vis G (4 * i + (q + 1)) = vis G (4 * i + q) := by
         rw [← Nat.add_assoc]; simp only [vis]; rw [hend, if_pos hk]
        simp [g1, g3, g4, g5, g6, g7, g8, hwq]
        refine ⟨kk' - 1, by omega, q + 1, by omega, hsub.trans s1', _, ?_, rfl, by omega⟩
        rw [hv]; rw [← hN] at hR; exact hR.keep s1'
       ·rw [decide_eq_false (fun h => hk (hkn.1 h))] at g7
        have hv : vis G (4 * i + (q + 1)) = ((vis G (4 * i + q)).1 ++ orbL G (i, q), (vis G (4 * i + q)).2 ++ [orbL G (i, q)]) := by
         rw [← Nat.add_assoc]; simp only [vis]; rw [hend, if_neg hk]
        have hrg := hreg hinV h1 (hx.sub (sB.trans (hsub.trans s1')))
        have hb1 : h1[h0.length]? = some (O.cells [.slice a n c, .int .i64 L] 24 (some 0)) := s1' _ _ (hsub _ _ bB)
        simp [g1, g3, g4, g5, g6, g7, g8, hwq, rdN_def, hb1, b1]
        refine hrg.imp ?_
        rintro o ⟨h2, f2⟩ ⟨v, rfl, hf2, hs2, hO⟩
        simp only at hf2 hs2 hO
        have hPer := (per_spec hG hinV).1
        obtain ⟨br, sr, rfl, hbr, hbc⟩ : ∃ br sr, v = .slice (some ⟨br, 0, none⟩) (per G (i, q)) (per G (i, q)) ∧ h1.length ≤ br ∧ h2[br]? = some (.cells (cellsL (orbL G (i, q))) 72 (some sr)) := by
         rcases hO.2 with ⟨_, hz⟩ | ⟨b, s, e1, e2, e3, _⟩
         ·omega
         ·exact ⟨b, s, e1, e2, e3⟩
        obtain ⟨h3, hh3⟩ : ∃ H, H = h2 ++ [O.cells [.slice (some ⟨br, 0, none⟩) (per G (i, q)) (per G (i, q))] 215 (some 0)] := ⟨_, rfl⟩
        have s3 : Sub h2 h3 := by rw [hh3]; exact (Sub.refl _).app _
        have hR3 := ((hR.keep s1').keep hs2).keep s3
        have hl1 := s1'.len
        have hl2 := hs2.len
        have hl3 := s3.len
        have hO3 : OwnS h3 hB.length (.slice (some ⟨br, 0, none⟩) (per G (i, q)) (per G (i, q))) (orbL G (i, q)).length (cellsL (orbL G (i, q))) 72 2 := by
         rw [show (orbL G (i, q)).length = per G (i, q) from orbN_length _ _ _]
         exact OwnS.low (hO.keep fun b s _ e => s3 _ _ e) (by omega)
        have hrd : readSlice h3 1 1 (some ⟨h2.length, 0, none⟩) = some [.slice (some ⟨br, 0, none⟩) (per G (i, q)) (per G (i, q))] := slice_read (by rw [hh3, app_at0]; rfl) rfl
        obtain ⟨b', h4, f4, happ, hR4, hf4, hf4', hl4, hk4⟩ := hR3.push (fl := h0.length) (c := 1) hO3 hrd rfl (by omega) (by simp only [roomMax]; omega)
        have hf : f4 = h0.length := by omega
        rw [← hN] at happ hR4
        have hlen0 : h0.length < hB.length := by omega
        simp [joined_fl, hf2, ← hh3, happ, hf, g1, g4, g5, hwq]
        refine ⟨kk' - 1, by omega, q + 1, by omega, fun b o hb => hk4 b o (s3 _ _ (hs2 _ _ (s1' _ _ (hsub _ _ hb)))) (.inl (List.getElem?_eq_some_iff.1 hb).1), _, ?_, rfl, by omega⟩
        rw [hv]
        exact hR4
     ·refine ⟨0, by omega, rfl, ?_⟩
      simp [g1, g3, g4, g5]
    ·have hq4 : q = 4 := by omega
     subst hq4
     have hw : IntKind.i64.wrap ((i : Int) + 1) = (i : Int) + 1 := by rw [w64_id] <;> omega
     simp [g1, g3, g4, g5, hw]
     exact ⟨kk - 1, by omega, i + 1, by omega, hsub, _, by rw [Nat.mul_add]; exact hR, rfl, by omega⟩
   ·exact ⟨0, h, v, by omega, rfl, hsub, hR, by simp [g1, g3, g4]⟩
  ·have hin : i = n := by omega
   subst hin
   simp [g1, g3, g4, rd_def, hb2, endK_ret]
   unfold pairQ back
   have hR0 : RegsQ h h0.length v (regs G) := by
    have := hR.low (lo' := h0.length) (by omega)
    unfold regs
    rw [hGn]; exact this
   split
   ·rename_i hc
    rw [Bool.and_eq_true] at hc
    exact ⟨v, rfl, Nat.le_refl _, Sub.refl _, (hR0.scalar hc.1).2 _⟩
   ·exact ⟨v, rfl, Nat.le_refl _, sB.trans hsub, hR0⟩
 ·exact ⟨0, hB, emptyS, by omega, rfl, Sub.refl _, ⟨[], .inl ⟨rfl, rfl, rfl⟩, fun i r h => by simp [vis] at h⟩, by simp⟩
end Go.Proofs.Ytjlkndkedknocaa
namespace Go.Ai
attribute [local instance] Classical.propDecidable
theorem cntP_sub {p q : Nat → Prop} : ∀ {n : Nat}, (∀ i, i < n → q i → p i) → cntP q n ≤ cntP p n := by
 intro n
 induction n with
 | zero => intro _; exact Nat.le_refl _
 | succ n ih =>
  intro h
  have := ih fun i hi => h i (by omega)
  simp only [cntP]
  by_cases hq : q n
  ·rw [if_pos hq, if_pos (h n (by omega) hq)]; omega
  ·rw [if_neg hq]; omega
theorem cntP_less {p q : Nat → Prop} {i0 : Nat} (hp : p i0) (hq : ¬ q i0) : ∀ {n : Nat}, (∀ i, i < n → q i → p i) → i0 < n → cntP q n < cntP p n := by
 intro n
 induction n with
 | zero => intro _ h; omega
 | succ n ih =>
  intro h hi
  have hs := cntP_sub (n := n) fun i hi => h i (show i < n + 1 by omega)
  simp only [cntP]
  by_cases e : i0 = n
  ·subst e
   rw [if_neg hq, if_pos hp]; omega
  ·have := ih (fun i hi => h i (by omega)) (by omega)
   by_cases hq : q n
   ·rw [if_pos hq, if_pos (h n (by omega) hq)]; omega
   ·rw [if_neg hq]; omega
theorem OwnT.scalar {h : List O} {lo k : Nat} {v : Value} {cs : List Value} {el : TypeId} {size : Nat} (ho : OwnT h lo v k cs el size) (hs : Ai.scalar v = true) (h' : List O) : OwnT h' lo v k cs el size := by
 rcases ho with h1 | ⟨h4, ⟨rfl, h5⟩ | ⟨b, s, rfl, h6⟩⟩
 ·exact .inl h1
 ·exact .inr ⟨h4, .inl ⟨rfl, h5⟩⟩
 ·simp [Ai.scalar, flat1, flat] at hs
theorem OwnT.low {h : List O} {lo lo' k : Nat} {v : Value} {cs : List Value} {el : TypeId} {size : Nat} (ho : OwnT h lo v k cs el size) (hl : lo' ≤ lo) : OwnT h lo' v k cs el size := by
 rcases ho with h1 | ⟨h0, h1⟩
 ·exact .inl h1
 ·rcases h1 with h1 | ⟨b, s, h1, h2, h3⟩
  ·exact .inr ⟨h0, .inl h1⟩
  ·exact .inr ⟨h0, .inr ⟨b, s, h1, Nat.le_trans hl h2, h3⟩⟩
end Go.Ai
namespace Go.Proofs.Ytjlkndkedknocaa
open Go Go.Ai
attribute [local instance] Classical.propDecidable
noncomputable def outN (bs : List Bool) (n : Nat) : Nat := cntP (fun i => bnth bs i = false) n
structure PcI (G : Dg) (c : Nat) (bs : List Bool) : Prop where
 len : bs.length = G.n
 root : bnth bs c = true
 conn : ∀ i, i < G.n → bnth bs i = true → Conn G c i
def Cl (G : Dg) (bs : List Bool) (k j : Nat) : Prop := ∀ k' q, k' < G.n → q < 4 → (k' < k ∨ k' = k ∧ q < j) → bnth bs k' = true → bnth bs (oth G (k', q)).1 = true
theorem Cl.step {G : Dg} {bs : List Bool} {k j : Nat} (h : Cl G bs k j) (hb : bnth bs (oth G (k, j)).1 = true) : Cl G bs k (j + 1) := by
 intro k' q h1 h2 h3 h4
 by_cases e : k' = k ∧ q = j
 ·rw [e.1, e.2]; exact hb
 ·exact h k' q h1 h2 (by omega) h4
theorem Cl.next {G : Dg} {bs : List Bool} {k j : Nat} (h : Cl G bs k j) (hb : bnth bs k = false ∨ 4 ≤ j) : Cl G bs (k + 1) 0 := by
 intro k' q h1 h2 h3 h4
 refine h k' q h1 h2 ?_ h4
 rcases hb with hb | hb
 ·left
  have : k' ≠ k := fun e => by rw [e, hb] at h4; cases h4
  omega
 ·omega
theorem PcI.set {G : Dg} (hG : GoodG G) {c k j : Nat} {bs : List Bool} (h : PcI G c bs) (hk : k < G.n) (hj : j < 4) (hb : bnth bs k = true) : PcI G c (bs.set (oth G (k, j)).1 true) := by
 have hn := (nb hG hk hj).1
 have hl := h.len
 refine ⟨by simp [hl], ?_, fun i hi => ?_⟩
 ·rw [bnth_set (by omega)]
  split
  ·rfl
  ·exact h.root
 ·rw [bnth_set (by omega)]
  split
  ·rename_i e
   intro _
   rw [e]
   exact (h.conn k hk hb).step j hj
  ·exact h.conn i hi
theorem outN_set {n i : Nat} {bs : List Bool} (hl : bs.length = n) (hi : i < n) (hb : bnth bs i = false) : outN (bs.set i true) n < outN bs n := by
 unfold outN
 refine cntP_less (i0 := i) hb ?_ (fun j hj => ?_) hi
 ·rw [bnth_set (by omega), if_pos rfl]; simp
 ·rw [bnth_set (by omega)]
  split
  ·intro h; cases h
  ·exact id
theorem Cl.iff {G : Dg} (hG : GoodG G) {c : Nat} {bs : List Bool} (h : PcI G c bs) (hc : c < G.n) (k : Cl G bs G.n 0) {i : Nat} (hi : i < G.n) : bnth bs i = true ↔ Conn G c i := by
 refine ⟨h.conn i hi, fun hC => ?_⟩
 have key : ∀ b, Conn G c b → bnth bs b = true := by
  intro b hb
  induction hb with
  | refl => exact h.root
  | @step b q hab hq ih => exact k b q (hab.lt hG hc) hq (.inl (hab.lt hG hc)) ih
 exact key i hC
variable {E : Env} (hE : OE E)
include hE
theorem piece_ {h0 : List O} {a : Option Addr} {n c : Nat} {x : Nat → Nat → Int} {s : Nat → Int} {L : Int} (hx : CrossP h0 a n x s) (hS : Snd n x s L) {e : Nat} (he : e < n) :
  DC E 193 [dV a n c L, .int .i64 e] ⟨h0, h0.length⟩ fun o st' => ∃ v l, o = .ret v ∧ h0.length ≤ st'.fl ∧ Sub h0 st'.h ∧ l = (List.range n).filter (fun i => decide (Conn (dgOf n x s L) e i)) ∧ OwnT st'.h h0.length v l.length (intsC (l.map Int.ofNat)) 3 1 := by
 refine hE.fnC (body := rb193) rfl ?_
 unfold rb193
 have hG := good_of hS
 have hoth := fun {y : Nat × Nat} (hy : InV (dgOf n x s L) y) h k => other_ hE (h0 := h) (a := a) (x := x) (c := c) k hS hy
 simp only [dV, endV] at hoth
 obtain ⟨G, hGe⟩ : ∃ G, G = dgOf n x s L := ⟨_, rfl⟩
 rw [← hGe] at hG ⊢
 simp only [← hGe] at hoth
 have hGn : G.n = n := by rw [hGe]; rfl
 have hsz := hG.size
 rw [hGn] at hsz
 obtain ⟨hB, hhB⟩ : ∃ H, H = h0 ++ [O.cells [.slice a n c, .int .i64 L] 24 (some 0)] := ⟨_, rfl⟩
 have lB : hB.length = h0.length + 1 := by rw [hhB]; simp
 have sB : Sub h0 hB := by rw [hhB]; exact (Sub.refl _).app _
 have bB : hB[h0.length]? = some (O.cells [.slice a n c, .int .i64 L] 24 (some 0)) := by rw [hhB, app_at0]; rfl
 have e1 : (n : Int) ≤ 140737488355328 := by omega
 have e2 : (n : Int) < 4611686018427387904 := by omega
 have hrep : rep n [Value.bool false] = boolsC (List.replicate n false) := by simp [rep, boolsC]
 have he1 : e + 1 ≤ n := by omega
 simp [dV, rd_at0, e1, e2, hrep, he, wrN_at, set_at, boolsC_set, List.append_assoc, he1]
 obtain ⟨m, hm⟩ : ∃ m, m = h0.length + 1 := ⟨_, rfl⟩
 rw [← hm] at lB ⊢
 refine DW_loop (fun kk fr st => ∃ (h : List O) (bs : List Bool) (ch : Bool), st = ⟨h, h0.length⟩ ∧ Sub hB h ∧ AtB h m (.cells (boolsC bs) 4 (some 0)) ∧ PcI G e bs ∧ (ch = true → outN bs n < kk) ∧ (ch = false → Cl G bs n 0) ∧ get fr 2 = .pointer (some ⟨h0.length, 0, none⟩) ∧ get fr 5 = .slice (some ⟨m, 0, none⟩) n n ∧ get fr 6 = .bool ch) ?_ (k := n + 1) ?_
 ·rintro kk fr st ⟨h, bs, ch, rfl, hsub, hatB, hI, hlt, hcl, g2, g5, g6⟩
  cases ch with
  | true =>
   have hlt' := hlt rfl
   simp [g2, g5, g6]
   refine DW_loop (fun kk' fr st => ∃ (k : Nat) (h : List O) (bs' : List Bool) (ch : Bool), k + kk' = n ∧ st = ⟨h, h0.length⟩ ∧ Sub hB h ∧ AtB h m (.cells (boolsC bs') 4 (some 0)) ∧ PcI G e bs' ∧ outN bs' n ≤ outN bs n ∧ (ch = true → outN bs' n < outN bs n) ∧ (ch = false → Cl G bs' k 0) ∧ get fr 2 = .pointer (some ⟨h0.length, 0, none⟩) ∧ get fr 5 = .slice (some ⟨m, 0, none⟩) n n ∧ get fr 6 = .bool ch ∧ get fr 7 = .int .i64 k) ?_ (k := n) ?_
   ·clear g2 g5 g6
    rintro kk' fr st ⟨k, h', bs', ch, hkk, rfl, hsub', hatB', hI', hle', hlt'', hcl', g2, g5, g6, g7⟩
    by_cases hk : k < n
    ·simp [g2, g5, g6, g7, hk]
     refine DW_loop (fun kk'' fr st => ∃ (j : Nat) (h : List O) (bs' : List Bool) (ch : Bool), j + kk'' = 4 ∧ st = ⟨h, h0.length⟩ ∧ Sub hB h ∧ AtB h m (.cells (boolsC bs') 4 (some 0)) ∧ PcI G e bs' ∧ outN bs' n ≤ outN bs n ∧ (ch = true → outN bs' n < outN bs n) ∧ (ch = false → Cl G bs' k j) ∧ get fr 2 = .pointer (some ⟨h0.length, 0, none⟩) ∧ get fr 5 = .slice (some ⟨m, 0, none⟩) n n ∧ get fr 6 = .bool ch ∧ get fr 7 = .int .i64 k ∧ get fr 8 = .int .i64 j) ?_ (k := 4) ?_
     ·clear g2 g5 g6 g7 hcl' hlt'' hle' hI' hatB' hsub'
      clear bs' h' ch
      rintro kk'' fr st ⟨j, h', bs', ch, hjk, rfl, hsub', hatB', hI', hle', hlt'', hcl', g2, g5, g6, g7, g8⟩
      have hat := hatB'
      unfold AtB at hat
      have hlen := hI'.len
      have hwk : IntKind.i64.wrap ((k : Int) + 1) = (k : Int) + 1 := by rw [w64_id] <;> omega
      have hwj : IntKind.i64.wrap ((j : Int) + 1) = (j : Int) + 1 := by rw [w64_id] <;> omega
      have hkb : k < bs'.length := by omega
      by_cases hj : j < 4
      ·have hj' : (j : Int) < 4 := by omega
       by_cases hb : bnth bs' k = true
       ·have hinV : InV G (k, j) := hG.inV (by rw [hGn]; exact hk) hj
        obtain ⟨o, ho⟩ : ∃ o, o = oth G (k, j) := ⟨_, rfl⟩
        have hnb := nb hG (c := k) (q := j) (by omega) hj
        have hot := hoth hinV
        rw [← ho] at hot hnb
        have ho1 : o.1 < n := by have := hnb.1; omega
        have hcs : CrossP h' a n x s := hx.sub (sB.trans hsub')
        have hb2 : h'[h0.length]? = some (O.cells [.slice a n c, .int .i64 L] 24 (some 0)) := hsub' _ _ bB
        obtain ⟨h1, hh1⟩ : ∃ H, H = h' ++ [O.cells [.int .i64 o.1, .int .i64 o.2] 72 (some 0)] := ⟨_, rfl⟩
        have s1 : Sub h' h1 := by rw [hh1]; exact (Sub.refl _).app _
        have b1 : h1[h'.length]? = some (O.cells [.int .i64 o.1, .int .i64 o.2] 72 (some 0)) := by rw [hh1, app_at0]; rfl
        have hat1 := s1 _ _ hat
        have hsl := hsub'.len
        have hmin : min h0.length h'.length = h0.length := by omega
        have hminm : min h0.length m = h0.length := by omega
        have hob : o.1 < bs'.length := by omega
        have hob1 : o.1 + 1 ≤ n := by omega
        by_cases hin : bnth bs' o.1 = true
        ·simp [g2, g5, g6, g7, g8, hj', rd_def, rdN_def, hat, boolsC_get hkb, hb, hk, hb2, DC_when hot, hcs, joined_fl, wrN_at0, set_at0, hmin, ← hh1, hat1, b1, boolsC_get hob, hin, ho1, hwj]
         refine ⟨kk'' - 1, by omega, j + 1, by omega, fun b o hb => s1 _ _ (hsub' _ _ hb), bs', hat1, hI', hle', ?_⟩
         cases ch with
         | true => exact .inr ⟨hlt'' rfl, rfl, by omega⟩
         | false => exact .inl ⟨(hcl' rfl).step (by rw [← ho]; exact hin), rfl, by omega⟩
        ·have hin' : bnth bs' o.1 = false := by simpa using hin
         simp [g2, g5, g6, g7, g8, hj', rd_def, rdN_def, wrN_def, hat, boolsC_get hkb, hb, hk, hb2, DC_when hot, hcs, joined_fl, wrN_at0, set_at0, hmin, ← hh1, hat1, b1, boolsC_get hob, hin', ho1, hwj, boolsC_set, hlen, hob1, hminm, hGn]
         have hlt3 := outN_set (n := n) (by omega) ho1 hin'
         refine ⟨kk'' - 1, by omega, j + 1, by omega, (hsub'.trans s1).set (by omega) _, bs'.set o.1 true, set_self hat1, ?_, by omega, by omega, by omega⟩
         rw [ho]
         exact hI'.set hG (by omega) hj hb
       ·have hb' : bnth bs' k = false := by simpa using hb
        simp [g2, g5, g6, g7, g8, hj', rd_def, hat, boolsC_get hkb, hb', hk, hwk]
        refine ⟨kk' - 1, by omega, k + 1, by omega, hsub', bs', hatB', hI', hle', ?_⟩
        cases ch with
        | true => exact .inr ⟨hlt'' rfl, rfl, by omega⟩
        | false => exact .inl ⟨(hcl' rfl).next (.inl hb'), rfl, by omega⟩
      ·have hj' : ¬ (j : Int) < 4 := by omega
       simp [g2, g5, g6, g7, g8, hj', hwk]
       refine ⟨kk' - 1, by omega, k + 1, by omega, hsub', bs', hatB', hI', hle', ?_⟩
       cases ch with
       | true => exact .inr ⟨hlt'' rfl, rfl, by omega⟩
       | false => exact .inl ⟨(hcl' rfl).next (.inr (by omega)), rfl, by omega⟩
     ·refine ⟨0, h', bs', ch, by omega, rfl, hsub', hatB', hI', hle', hlt'', hcl', ?_⟩
      simp [g2, g5, g6, g7]
    ·have hkn : k = n := by omega
     simp [g2, g5, g6, g7, hk]
     refine ⟨outN bs n, hlt', hsub', bs', hatB', hI', ?_⟩
     cases ch with
     | true => exact .inr ⟨hlt'' rfl, rfl⟩
     | false => exact .inl ⟨by rw [← hkn]; exact hcl' rfl, rfl⟩
   ·refine ⟨0, h, bs, false, by omega, rfl, hsub, hatB, hI, Nat.le_refl _, fun h => (by cases h), fun _ k' q _ _ h => (by omega), ?_⟩
    simp [g2, g5]
  | false =>
   have hclo := hcl rfl
   have hat := hatB
   unfold AtB at hat
   have hlen := hI.len
   have hsl := hsub.len
   have hml := (List.getElem?_eq_some_iff.1 hat).1
   simp [g2, g5, g6]
   refine DW_loop (fun kk' fr st => ∃ (i : Nat) (h' : List O) (v : Value), i + kk' = n ∧ st = ⟨h', h0.length⟩ ∧ Sub h h' ∧ OwnT h' h.length v ((List.range i).filter (fun i => bnth bs i)).length (intsC (((List.range i).filter (fun i => bnth bs i)).map Int.ofNat)) 3 1 ∧ get fr 5 = .slice (some ⟨m, 0, none⟩) n n ∧ get fr 10 = v ∧ get fr 11 = .int .i64 i) ?_ (k := n) ?_
   ·clear g2 g5 g6
    rintro kk' fr st ⟨i, h', v, hik, rfl, hsub', hT, g5, g10, g11⟩
    have hat' := hsub' _ _ hat
    have hw : IntKind.i64.wrap ((i : Int) + 1) = (i : Int) + 1 := by rw [w64_id] <;> omega
    by_cases hi : i < n
    ·have hib : i < bs.length := by omega
     have hfl := List.length_filter_le (fun i => bnth bs i) (List.range i)
     rw [List.length_range] at hfl
     by_cases hb : bnth bs i = true
     ·have hsl' := hsub'.len
      obtain ⟨h3, hh3⟩ : ∃ H, H = h' ++ [O.cells [.int .i64 i] 3 (some 0)] := ⟨_, rfl⟩
      have s3 : Sub h' h3 := by rw [hh3]; exact (Sub.refl _).app _
      have hl3 := s3.len
      have hrd : readSlice h3 1 1 (some ⟨h'.length, 0, none⟩) = some [.int .i64 i] := slice_read (by rw [hh3, app_at0]; rfl) rfl
      obtain ⟨b', h4, f4, happ, hb', hT4, hf4, hf4', hl4, hk4⟩ := append_T (fl := h0.length) (c := 1) (bytes := 8) (hT.keep (h' := h3) fun b s _ _ e => s3 _ _ e) hrd rfl rfl (by omega) (by simp only [roomMax]; omega) (by omega)
      have hf : f4 = h0.length := by omega
      simp [g5, g10, g11, hi, rd_def, hat', boolsC_get hib, hb, ← hh3, happ, hf, hw]
      have hfs : (List.range (i + 1)).filter (fun i => bnth bs i) = (List.range i).filter (fun i => bnth bs i) ++ [i] := by
       rw [List.range_succ, List.filter_append]; simp [hb]
      refine ⟨kk' - 1, by omega, i + 1, by omega, fun b o hb => hk4 b o (s3 _ _ (hsub' _ _ hb)) (.inl (List.getElem?_eq_some_iff.1 hb).1), _, ?_, rfl, by omega⟩
      rw [hfs, List.map_append, List.length_append]
      simp only [intsC, List.map_append] at hT4 ⊢
      exact hT4
     ·have hb' : bnth bs i = false := by simpa using hb
      simp [g5, g10, g11, hi, rd_def, hat', boolsC_get hib, hb', hw]
      have hfs : (List.range (i + 1)).filter (fun i => bnth bs i) = (List.range i).filter (fun i => bnth bs i) := by
       rw [List.range_succ, List.filter_append]; simp [hb']
      exact ⟨kk' - 1, by omega, i + 1, by omega, hsub', v, by rw [hfs]; exact hT, rfl, by omega⟩
    ·have hin : i = n := by omega
     subst hin
     simp [g5, g10, g11, endK_ret]
     have hfe : (List.range i).filter (fun i => bnth bs i) = (List.range i).filter (fun i => decide (Conn G e i)) := by
      refine List.filter_congr fun j hj => ?_
      rw [List.mem_range] at hj
      rw [Bool.eq_iff_iff, decide_eq_true_iff]
      exact Cl.iff hG hI (by omega) (by rw [hGn]; exact hclo) (by omega)
     rw [hfe] at hT
     have hT0 := hT.low (lo' := h0.length) (by omega)
     unfold pairQ back
     split
     ·rename_i hc
      rw [Bool.and_eq_true] at hc
      exact ⟨v, rfl, Nat.le_refl _, Sub.refl _, hT0.scalar hc.1 _⟩
     ·exact ⟨v, rfl, Nat.le_refl _, sB.trans (hsub.trans hsub'), hT0⟩
   ·refine ⟨0, h, emptyS, by omega, rfl, Sub.refl _, .inl ⟨rfl, by simp, by simp [intsC]⟩, ?_⟩
    simp [g5]
 ·refine ⟨_, (List.replicate n false).set e true, true, rfl, ?_, ?_, ⟨?_, ?_, fun i hi => ?_⟩, fun _ => ?_, fun h => (by cases h), ?_⟩
  ·rw [hhB]
   exact Ext.sub ⟨[O.cells (boolsC ((List.replicate n false).set e true)) 4 (some 0)], by simp⟩
  ·unfold AtB
   rw [hm, app_at]
   simp
  ·simp [hGn]
  ·rw [bnth_set (by simp; omega), if_pos rfl]
  ·rw [bnth_set (by simp; omega)]
   split
   ·rename_i e'
    intro _; rw [e']; exact .refl _
   ·rw [bnth_rep (by omega)]
    intro h; cases h
  ·have := cntP_le (fun i => bnth ((List.replicate n false).set e true) i = false) n
   unfold outN; omega
  ·simp
end Go.Proofs.Ytjlkndkedknocaa
namespace Go.Ai
attribute [local instance] Classical.propDecidable
theorem filter_cnt (p : Nat → Prop) : ∀ n, ((List.range n).filter fun i => decide (p i)).length = cntP p n := by
 intro n
 induction n with
 | zero => rfl
 | succ n ih =>
  rw [List.range_succ, List.filter_append, List.length_append, ih]
  simp only [cntP]
  by_cases h : p n
  ·simp [h]
  ·simp [h]
end Go.Ai
namespace Go.Proofs.Ytjlkndkedknocaa
open Go Go.Ai
attribute [local instance] Classical.propDecidable
noncomputable def pieceL (G : Dg) (c : Nat) : List Nat := (List.range G.n).filter fun i => decide (Conn G c i)
theorem pieceL_mem {G : Dg} {c i : Nat} : i ∈ pieceL G c ↔ i < G.n ∧ Conn G c i := by simp [pieceL]
theorem pieceL_len (G : Dg) (c : Nat) : (pieceL G c).length = cntP (fun i => Conn G c i) G.n := filter_cnt _ _
theorem pieceL_nodup (G : Dg) (c : Nat) : (pieceL G c).Nodup := List.nodup_range.filter _
theorem pieceL_conn {G : Dg} (hG : GoodG G) {c d : Nat} (hc : c < G.n) (h : Conn G c d) : pieceL G d = pieceL G c := by
 unfold pieceL
 refine List.filter_congr fun i hi => ?_
 rw [Bool.eq_iff_iff, decide_eq_true_iff, decide_eq_true_iff]
 exact ⟨fun k => h.trans k, fun k => (h.symm hG hc).trans k⟩
def PlanC (G : Dg) (c : Nat) : Prop := cntP (fun t => Conn G c (rhead G t)) (regs G).length = 2 + cntP (fun i => Conn G c i) G.n
theorem planC_conn {G : Dg} (hG : GoodG G) {c d : Nat} (hc : c < G.n) (h : Conn G c d) : PlanC G d ↔ PlanC G c := by
 have e : ∀ i, Conn G d i ↔ Conn G c i := fun i => ⟨fun k => h.trans k, fun k => (h.symm hG hc).trans k⟩
 unfold PlanC
 rw [cntP_congr fun t _ => e (rhead G t), cntP_congr fun i _ => e i]
theorem plan_heads {G : Dg} (hG : GoodG G) : PlanG G ↔ ∀ c, c < G.n → (pieceL G c)[0]? = some c → PlanC G c := by
 constructor
 ·intro h c hc _; exact h c hc
 ·intro h c hc
  have hm : c ∈ pieceL G c := pieceL_mem.2 ⟨hc, .refl _⟩
  obtain ⟨d, l, hl⟩ : ∃ d l, pieceL G c = d :: l := by
   cases hp : pieceL G c with
   | nil => rw [hp] at hm; cases hm
   | cons d l => exact ⟨d, l, rfl⟩
  have hd : d ∈ pieceL G c := by rw [hl]; exact List.mem_cons_self
  obtain ⟨d1, d2⟩ := pieceL_mem.1 hd
  refine (planC_conn hG hc d2).1 (h d d1 ?_)
  rw [pieceL_conn hG hc d2, hl]; rfl
def natsC (l : List Nat) : List Value := l.map fun i => .int .i64 (i : Nat)
theorem natsC_eq (l : List Nat) : intsC (l.map Int.ofNat) = natsC l := by simp [intsC, natsC]
theorem natsC_get {l : List Nat} {i a : Nat} (h : l[i]? = some a) : (natsC l)[i]? = some (.int .i64 a) := by simp [natsC, h]
variable {E : Env} (hE : OE E)
include hE
theorem planar_ {h0 : List O} {a : Option Addr} {n c : Nat} {x : Nat → Nat → Int} {s : Nat → Int} {L : Int} (hx : CrossP h0 a n x s) (hS : Snd n x s L) :
  DR E 135 [dV a n c L] ⟨h0, h0.length⟩ (.ret (.bool (decide (PlanG (dgOf n x s L))))) ⟨h0, h0.length⟩ := by
 refine hE.fn (body := rb135) rfl ?_
 unfold rb135
 have hG := good_of hS
 obtain ⟨hB, hhB⟩ : ∃ H, H = h0 ++ [O.cells [.slice a n c, .int .i64 L] 24 (some 0)] := ⟨_, rfl⟩
 have lB : hB.length = h0.length + 1 := by rw [hhB]; simp
 have sB : Sub h0 hB := by rw [hhB]; exact (Sub.refl _).app _
 have bB : hB[h0.length]? = some (O.cells [.slice a n c, .int .i64 L] 24 (some 0)) := by rw [hhB, app_at0]; rfl
 have hxB : CrossP hB a n x s := hx.sub sB
 have hreg := regionsR_ hE (c := c) hxB hS
 have hpie := fun {e : Nat} (he : e < n) h k => piece_ hE (h0 := h) (a := a) (x := x) (c := c) k hS he
 simp only [dV] at hpie hreg
 obtain ⟨G, hGe⟩ : ∃ G, G = dgOf n x s L := ⟨_, rfl⟩
 rw [← hGe] at hG hreg ⊢
 simp only [← hGe] at hpie
 have hGn : G.n = n := by rw [hGe]; rfl
 have hpl : ∀ e, (List.range n).filter (fun i => decide (Conn G e i)) = pieceL G e := fun e => by unfold pieceL; rw [hGn]
 simp only [hpl] at hpie
 have hsz := hG.size
 rw [hGn] at hsz
 have hbad : ∀ h' f, h0.length ≤ f → ¬ PlanG G → pairQ (back ⟨h0, h0.length⟩ (.ret (.bool false)) ⟨h', f⟩) fun o2 st2 => o2 = .ret (.bool (decide (PlanG G))) ∧ st2 = ⟨h0, h0.length⟩ := fun h' f hf hm => by
  unfold pairQ
  rw [back_scalar (by simp [Out.scalar, scalar, flat1, flat]) hf]
  simp [hm]
 have hgood : ∀ h' f, h0.length ≤ f → PlanG G → pairQ (back ⟨h0, h0.length⟩ (.ret (.bool true)) ⟨h', f⟩) fun o2 st2 => o2 = .ret (.bool (decide (PlanG G))) ∧ st2 = ⟨h0, h0.length⟩ := fun h' f hf hm => by
  unfold pairQ
  rw [back_scalar (by simp [Out.scalar, scalar, flat1, flat]) hf]
  simp [hm]
 simp [dV, rdN_at0]
 rw [← hhB, ← lB]
 refine hreg.imp ?_
 rintro o ⟨h1, f1⟩ ⟨v, rfl, hf1, hs1, hR⟩
 simp only at hf1 hs1 hR
 obtain ⟨ra, rfl, hat⟩ := hR.at_
 obtain ⟨R, hRe⟩ : ∃ R, R = (regs G).length := ⟨_, rfl⟩
 have hRl : R ≤ 4 * n := by rw [hRe, ← hGn]; exact regs_len
 have hb1 := hs1 _ _ bB
 simp [joined_fl, hf1]
 rw [← hRe]
 refine DW_loop (fun kk fr st => ∃ (i : Nat) (h : List O), i + kk = n ∧ st = ⟨h, h0.length⟩ ∧ Sub h1 h ∧ (∀ c, c < i → (pieceL G c)[0]? = some c → PlanC G c) ∧ get fr 1 = .pointer (some ⟨h0.length, 0, none⟩) ∧ get fr 3 = .slice ra R R ∧ get fr 4 = .int .i64 i) ?_ (k := n) ?_
 ·rintro kk fr st ⟨i, h, hik, rfl, hsub, hP, g1, g3, g4⟩
  have hb2 := hsub _ _ hb1
  by_cases hi : i < n
  ·have hw : IntKind.i64.wrap ((i : Int) + 1) = (i : Int) + 1 := by rw [w64_id] <;> omega
   have hpc := hpie hi h (hx.sub (sB.trans (hs1.trans hsub)))
   simp [g1, g3, g4, hi, rd_def, rdN_def, hb2]
   refine hpc.imp ?_
   rintro o ⟨h2, f2⟩ ⟨v, l, rfl, hf2, hs2, rfl, hT⟩
   simp only at hf2 hs2 hT
   rw [natsC_eq] at hT
   obtain ⟨pa, rfl, hpa⟩ := hT.look
   have him : i ∈ pieceL G i := pieceL_mem.2 ⟨by omega, .refl _⟩
   obtain ⟨N, hN⟩ : ∃ N, N = (pieceL G i).length := ⟨_, rfl⟩
   have hN0 : 0 < N := by rw [hN]; exact List.length_pos_of_mem him
   have hNn : N ≤ n := by rw [hN, pieceL_len, ← hGn]; exact cntP_le _ _
   rw [← hN] at hpa
   obtain ⟨pb, ps, rfl, hpb, hpc⟩ := hpa hN0
   obtain ⟨d, hd⟩ : ∃ d, (pieceL G i)[0]? = some d := ⟨_, List.getElem?_eq_getElem (by omega)⟩
   have hd' := natsC_get hd
   have hl2 := hs2.len
   by_cases hdi : d = i
   ·rw [hdi] at hd hd'
    obtain ⟨l, hl⟩ : ∃ l, l = pieceL G i := ⟨_, rfl⟩
    have hnd : l.Nodup := by rw [hl]; exact pieceL_nodup G i
    have hmem : ∀ t, t < R → (rhead G t ∈ l ↔ Conn G i (rhead G t)) := fun t ht => by
     rw [hl, pieceL_mem]
     exact ⟨fun h => h.2, fun h => ⟨rhead_lt hG (by omega), h⟩⟩
    rw [← hl] at hN hpc hd hd'
    simp [joined_fl, hf2, g1, g3, g4, rd_def, hpc, hd', hN0, ← hl, ← hN]
    refine DW_loop (fun kk' fr st => ∃ (t : Nat), t + kk' = R ∧ st = ⟨h2, h0.length⟩ ∧ get fr 1 = .pointer (some ⟨h0.length, 0, none⟩) ∧ get fr 3 = .slice ra R R ∧ get fr 4 = .int .i64 i ∧ get fr 5 = .slice (some ⟨pb, 0, none⟩) N N ∧ get fr 6 = .int .i64 (cntP (fun t => Conn G i (rhead G t)) t) ∧ get fr 7 = .int .i64 t) ?_ (k := R) ?_
    ·clear g1 g3 g4
     rintro kk' fr st ⟨t, htk, rfl, g1, g3, g4, g5, g6, g7⟩
     have hcl := cntP_le (fun t => Conn G i (rhead G t)) t
     obtain ⟨F, hF⟩ : ∃ F, F = cntP (fun t => Conn G i (rhead G t)) t := ⟨_, rfl⟩
     rw [← hF] at g6 hcl
     by_cases ht : t < R
     ·have hwt : IntKind.i64.wrap ((t : Int) + 1) = (t : Int) + 1 := by rw [w64_id] <;> omega
      obtain ⟨e, r, he, hre, her, hrh⟩ := regs_at hG (t := t) (by omega)
      obtain ⟨b, b', s1, s2, vs, hra, q1, q2, q3, q4, q5⟩ := hat t (e :: r) hre (by simp)
      have q3' := hs2 _ _ (hsub _ _ q3)
      have q5' := hs2 _ _ (hsub _ _ q5)
      have q5c : cellsL (e :: r) = .int .i64 e.1 :: .int .i64 e.2 :: cellsL r := rfl
      rw [q5c] at q5'
      simp [g1, g3, g4, g5, g6, g7, ht]
      refine DW_loop (fun kk'' fr st => ∃ (j : Nat), j + kk'' = N ∧ st = ⟨h2, h0.length⟩ ∧ get fr 1 = .pointer (some ⟨h0.length, 0, none⟩) ∧ get fr 3 = .slice ra R R ∧ get fr 4 = .int .i64 i ∧ get fr 5 = .slice (some ⟨pb, 0, none⟩) N N ∧ get fr 6 = .int .i64 (F + (if rhead G t ∈ l.take j then 1 else 0 : Nat)) ∧ get fr 7 = .int .i64 t ∧ get fr 8 = .int .i64 j) ?_ (k := N) ?_
      ·clear g1 g3 g4 g5 g6 g7
       rintro kk'' fr st ⟨j, hjk, rfl, g1, g3, g4, g5, g6, g7, g8⟩
       by_cases hj : j < N
       ·have hwj : IntKind.i64.wrap ((j : Int) + 1) = (j : Int) + 1 := by rw [w64_id] <;> omega
        obtain ⟨p, hp⟩ : ∃ p, l[j]? = some p := ⟨_, List.getElem?_eq_getElem (by omega)⟩
        have hp' := natsC_get hp
        have htk2 : l.take (j + 1) = l.take j ++ [p] := by rw [List.take_add_one, hp]; rfl
        have hnt : p ∉ l.take j := fun hm => by
         have h1 : (l.take (j + 1)).Nodup := hnd.sublist (List.take_sublist _ _)
         rw [htk2, List.nodup_append] at h1
         exact h1.2.2 p hm p (by simp) rfl
        by_cases hpe : e.1 = p
        ·have hif0 : rhead G t ∉ l.take j := by rw [hrh, hpe]; exact hnt
         have hif1 : rhead G t ∈ l.take (j + 1) := by rw [hrh, hpe, htk2]; simp
         have hwF : IntKind.i64.wrap ((F : Int) + 1) = (F : Int) + 1 := by rw [w64_id] <;> omega
         rw [if_neg hif0] at g6
         simp [g1, g3, g4, g5, g6, g7, g8, hj, hra, rd_def, q3', q4, q5', hpc, hp', hpe, hwj, ht, hwF]
         exact ⟨kk'' - 1, by omega, j + 1, by omega, by rw [if_pos hif1]; rfl, by omega⟩
        ·have hpe' : ¬ (e.1 : Int) = p := by omega
         have hif : (rhead G t ∈ l.take (j + 1)) ↔ rhead G t ∈ l.take j := by rw [htk2, hrh]; simp [hpe]
         simp [g1, g3, g4, g5, g6, g7, g8, hj, hra, rd_def, q3', q4, q5', hpc, hp', hpe, hwj, ht]
         exact ⟨kk'' - 1, by omega, j + 1, by omega, by simp only [hif], by omega⟩
       ·have hjN : j = N := by omega
        subst hjN
        rw [show l.take j = l from List.take_of_length_le (by omega)] at g6
        simp [g1, g3, g4, g5, g6, g7, g8, hwt]
        refine ⟨kk' - 1, by omega, t + 1, by omega, ?_, by omega⟩
        simp only [cntP]
        rw [← hF]
        by_cases hc : rhead G t ∈ l
        ·rw [if_pos hc, if_pos ((hmem t ht).1 hc)]; omega
        ·rw [if_neg hc, if_neg (fun h => hc ((hmem t ht).2 h))]; omega
      ·refine ⟨0, by omega, rfl, ?_⟩
       simp [g1, g3, g4, g5, g6, g7]
     ·have htR : t = R := by omega
      have hwN : IntKind.i64.wrap ((N : Int) + 2) = (N : Int) + 2 := by rw [w64_id] <;> omega
      have hPC : PlanC G i ↔ F = 2 + N := by
       unfold PlanC
       rw [← hRe, ← htR, ← hF, ← pieceL_len, ← hl, ← hN]
      by_cases hFN : F = N + 2
      ·have hFN' : (F : Int) = N + 2 := by omega
       simp [g1, g3, g4, g5, g6, g7, ht, hwN, hFN, hw]
       refine ⟨kk - 1, by omega, i + 1, by omega, hsub.trans hs2, fun c hc hc2 => ?_, by omega⟩
       by_cases e : c = i
       ·subst e; exact hPC.2 (by omega)
       ·exact hP c (by omega) hc2
      ·have hFN' : ¬ (F : Int) = N + 2 := by omega
       simp [g1, g3, g4, g5, g6, g7, ht, hwN, hFN', hw]
       intro hPG
       have h3 := hPC.1 (hPG i (by omega))
       omega
    ·refine ⟨0, by omega, rfl, ?_⟩
     simp [g1, g3, g4, cntP]
   ·have hdi' : ¬ (d : Int) = i := by omega
    simp [joined_fl, hf2, g1, g3, g4, rd_def, hpc, hd', hN0, ← hN, hdi', hw]
    refine ⟨kk - 1, by omega, i + 1, by omega, hsub.trans hs2, fun c hc hc2 => ?_, by omega⟩
    by_cases e : c = i
    ·subst e; rw [hd] at hc2; exact absurd (Option.some.inj hc2) hdi
    ·exact hP c (by omega) hc2
  ·have hin : i = n := by omega
   subst hin
   simp [g1, g3, g4, rd_def, hb2, endK_ret]
   exact (plan_heads hG).2 (by rw [hGn]; exact hP)
 ·exact ⟨0, h1, by omega, rfl, Sub.refl _, fun c hc => by omega, by simp⟩
end Go.Proofs.Ytjlkndkedknocaa
namespace Go.Ai
attribute [local instance] Classical.propDecidable
theorem cntP_one {p : Nat → Prop} {n i : Nat} (hi : i < n) (hp : p i) (hu : ∀ j, j < n → p j → j = i) : cntP p n = 1 := by
 induction n with
 | zero => omega
 | succ n ih =>
  simp only [cntP]
  by_cases e : i = n
  ·subst e
   rw [if_pos hp, cntP_zero fun j hj hpj => by have := hu j (by omega) hpj; omega]
  ·have hn : ¬ p n := fun h => e (hu n (by omega) h).symm
   rw [if_neg hn, ih (by omega) fun j hj => hu j (by omega)]
theorem cntP_two {p : Nat → Prop} {n i j : Nat} (hij : i < j) (hj : j < n) (hi : p i) (hp : p j) : 2 ≤ cntP p n := by
 have h1 := cntP_pos hij hi
 have h2 := cntP_mono p (show j + 1 ≤ n by omega)
 simp only [cntP, if_pos hp] at h2
 omega
end Go.Ai
namespace Go.Proofs.Ytjlkndkedknocaa
open Go Go.Ai
attribute [local instance] Classical.propDecidable
noncomputable def useN (x : Nat → Nat → Int) (s : Nat → Int) (a : Nat) (b : Bool) (J : Nat) : Nat := cntP (fun k => use x s k = ((a : Int), b)) J
theorem snd_counts {n : Nat} {x : Nat → Nat → Int} {s : Nat → Int} {L : Int} (h1 : n ≤ 200) (h2 : 0 ≤ L ∧ L ≤ 200) (h3 : ∀ c, c < n → s c = 1 ∨ s c = -1) (h4 : ∀ j, j < 4 * n → 0 ≤ (use x s j).1 ∧ (use x s j).1 < 2 * n) :
  Snd n x s L ↔ ∀ a, a < 2 * n → useN x s a true (4 * n) = 1 ∧ useN x s a false (4 * n) = 1 := by
 constructor
 ·intro hS a ha
  have key : ∀ b, useN x s a b (4 * n) = 1 := fun b => by
   obtain ⟨j, hj, he⟩ := hS.onto ha b
   exact cntP_one hj he fun j' hj' he' => hS.inj hj' hj (he'.trans he.symm)
  exact ⟨key true, key false⟩
 ·intro hc
  refine ⟨h1, h2, h3, h4, fun j j' hjj hj' he => ?_⟩
  have hr := h4 j (by omega)
  have h5 := hc (use x s j).1.toNat (by omega)
  have key : 2 ≤ useN x s (use x s j).1.toNat (use x s j).2 (4 * n) := by
   refine cntP_two hjj hj' ?_ ?_
   ·exact Prod.ext (by show (use x s j).1 = _; omega) rfl
   ·rw [← he]; exact Prod.ext (by show (use x s j).1 = _; omega) rfl
  cases hb : (use x s j).2 with
  | true => rw [hb] at key; omega
  | false => rw [hb] at key; omega
theorem useN_le (x : Nat → Nat → Int) (s : Nat → Int) (a : Nat) (b : Bool) (J : Nat) : useN x s a b J ≤ J := cntP_le _ _
structure SI (n : Nat) (x : Nat → Nat → Int) (s : Nat → Int) (J : Nat) (bs es : List Int) : Prop where
 lb : bs.length = 2 * n
 le : es.length = 2 * n
 cb : ∀ a, a < 2 * n → nth bs a = useN x s a true J
 ce : ∀ a, a < 2 * n → nth es a = useN x s a false J
 rg : ∀ j, j < J → 0 ≤ (use x s j).1 ∧ (use x s j).1 < 2 * n
theorem SI.stepB {n J a : Nat} {x : Nat → Nat → Int} {s : Nat → Int} {bs es : List Int} (h : SI n x s J bs es) (ha : a < 2 * n) (hu : use x s J = ((a : Int), true)) : SI n x s (J + 1) (bs.set a (nth bs a + 1)) es := by
 refine ⟨by simp [h.lb], h.le, fun b hb => ?_, fun b hb => ?_, fun j hj => ?_⟩
 ·rw [nth_set (by rw [h.lb]; exact ha)]
  unfold useN
  simp only [cntP, hu]
  by_cases e : b = a
  ·subst e; rw [if_pos rfl, if_pos rfl, h.cb b hb]; rfl
  ·rw [if_neg e, if_neg (fun e' => e (by have := congrArg Prod.fst e'; simp at this; omega)), h.cb b hb]; rfl
 ·unfold useN
  simp only [cntP, hu]
  rw [if_neg (by simp), h.ce b hb]; rfl
 ·by_cases e : j = J
  ·subst e; rw [hu]; exact ⟨by simp only; omega, by simp only; omega⟩
  ·exact h.rg j (by omega)
theorem SI.stepE {n J a : Nat} {x : Nat → Nat → Int} {s : Nat → Int} {bs es : List Int} (h : SI n x s J bs es) (ha : a < 2 * n) (hu : use x s J = ((a : Int), false)) : SI n x s (J + 1) bs (es.set a (nth es a + 1)) := by
 refine ⟨h.lb, by simp [h.le], fun b hb => ?_, fun b hb => ?_, fun j hj => ?_⟩
 ·unfold useN
  simp only [cntP, hu]
  rw [if_neg (by simp), h.cb b hb]; rfl
 ·rw [nth_set (by rw [h.le]; exact ha)]
  unfold useN
  simp only [cntP, hu]
  by_cases e : b = a
  ·subst e; rw [if_pos rfl, if_pos rfl, h.ce b hb]; rfl
  ·rw [if_neg e, if_neg (fun e' => e (by have := congrArg Prod.fst e'; simp at this; omega)), h.ce b hb]; rfl
 ·by_cases e : j = J
  ·subst e; rw [hu]; exact ⟨by simp only; omega, by simp only; omega⟩
  ·exact h.rg j (by omega)
variable {E : Env} (hE : OE E)
include hE
theorem sound_ {h0 : List O} {a : Option Addr} {n c : Nat} {x : Nat → Nat → Int} {s : Nat → Int} {L : Int} (hx : CrossP h0 a n x s) :
  DR E 134 [dV a n c L] ⟨h0, h0.length⟩ (.ret (.bool (decide (Snd n x s L)))) ⟨h0, h0.length⟩ := by
 refine hE.fn (body := rb134) rfl ?_
 unfold rb134
 obtain ⟨hB, hhB⟩ : ∃ H, H = h0 ++ [O.cells [.slice a n c, .int .i64 L] 24 (some 0)] := ⟨_, rfl⟩
 have lB : hB.length = h0.length + 1 := by rw [hhB]; simp
 have sB : Sub h0 hB := by rw [hhB]; exact (Sub.refl _).app _
 have bB : hB[h0.length]? = some (O.cells [.slice a n c, .int .i64 L] 24 (some 0)) := by rw [hhB, app_at0]; rfl
 have hbad : ∀ h' f, h0.length ≤ f → ¬ Snd n x s L → pairQ (back ⟨h0, h0.length⟩ (.ret (.bool false)) ⟨h', f⟩) fun o2 st2 => o2 = .ret (.bool (decide (Snd n x s L))) ∧ st2 = ⟨h0, h0.length⟩ := fun h' f hf hm => by
  unfold pairQ
  rw [back_scalar (by simp [Out.scalar, scalar, flat1, flat]) hf]
  simp [hm]
 by_cases hn : 200 < n
 ·have hn' : (200 : Int) < n := by omega
  simp [dV, rd_at0, hn, hn']
  intro hS; have := hS.size; omega
 have hn' : ¬ (200 : Int) < n := by omega
 by_cases hL0 : L < 0
 ·simp [dV, rd_at0, hn, hn', hL0]
  intro hS; have := hS.loops; omega
 by_cases hL1 : 200 < L
 ·simp [dV, rd_at0, hn, hn', hL0, hL1]
  intro hS; have := hS.loops; omega
 have e0 : (0 : Int) ≤ 2 * n := by omega
 have e1 : 2 * (n : Int) * 8 ≤ 140737488355328 := by omega
 have e2 : 2 * (n : Int) < 4611686018427387904 := by omega
 have e3 : (2 * (n : Int)).toNat = 2 * n := by omega
 have hw0 : IntKind.i64.wrap (2 * (n : Int)) = 2 * n := by rw [w64_id] <;> omega
 simp [dV, rd_at0, hn, hn', hL0, hL1, e0, e1, e2, e3, hw0, List.append_assoc]
 obtain ⟨m, hm⟩ : ∃ m, m = h0.length + 1 := ⟨_, rfl⟩
 rw [← hm] at lB ⊢
 have hmin : min h0.length m = h0.length := by omega
 have hmin2 : min h0.length (m + 1) = h0.length := by omega
 refine DW_loop (fun kk fr st => ∃ (i : Nat) (h : List O) (bs es : List Int), i + kk = n ∧ st = ⟨h, h0.length⟩ ∧ Sub hB h ∧ AtB h m (.cells (intsC bs) 3 (some 0)) ∧ AtB h (m + 1) (.cells (intsC es) 3 (some 0)) ∧ SI n x s (4 * i) bs es ∧ (∀ c, c < i → s c = 1 ∨ s c = -1) ∧ get fr 1 = .pointer (some ⟨h0.length, 0, none⟩) ∧ get fr 3 = .int .i64 n ∧ get fr 4 = .slice (some ⟨m, 0, none⟩) (2 * n) (2 * n) ∧ get fr 5 = .slice (some ⟨m + 1, 0, none⟩) (2 * n) (2 * n) ∧ get fr 6 = .int .i64 i) ?_ (k := n) ?_
 ·rintro kk fr st ⟨i, h, bs, es, hik, rfl, hsub, hbB, heB, hI, hsg, g1, g3, g4, g5, g6⟩
  have hb2 := hsub _ _ bB
  by_cases hi : i < n
  ·obtain ⟨xb, xo, hxa, hxr⟩ := hx
   obtain rfl := hxa (by omega)
   obtain ⟨rq, rs⟩ := CrossP.reads hxr hi
   have hq4 := (sB.trans hsub).rd rs
   simp only [rd_def] at hq4
   by_cases hs1 : s i = 1 ∨ s i = -1
   ·have hcr := hxr i hi
    have huse : ∀ q, q < 4 → use x s (4 * i + q) = (x i q, outB (s i) q) := fun q hq => by
     unfold use
     rw [show (4 * i + q) / 4 = i by omega, show (4 * i + q) % 4 = q by omega]
    have hin := fun {q : Nat} (hq : q < 4) h => In_ hE (h := h) (x := x i) (s := s i) hs1 hq
    simp only [crossV] at hin
    have hs1c := hs1
    rcases hs1c with hp | hp
    all_goals
     simp [g1, g3, g4, g5, g6, hi, rd_def, hb2, hq4, hp]
     refine DW_loop (fun kk' fr st => ∃ (q : Nat) (h : List O) (bs es : List Int), q + kk' = 4 ∧ st = ⟨h, h0.length⟩ ∧ Sub hB h ∧ AtB h m (.cells (intsC bs) 3 (some 0)) ∧ AtB h (m + 1) (.cells (intsC es) 3 (some 0)) ∧ SI n x s (4 * i + q) bs es ∧ get fr 1 = .pointer (some ⟨h0.length, 0, none⟩) ∧ get fr 3 = .int .i64 n ∧ get fr 4 = .slice (some ⟨m, 0, none⟩) (2 * n) (2 * n) ∧ get fr 5 = .slice (some ⟨m + 1, 0, none⟩) (2 * n) (2 * n) ∧ get fr 6 = .int .i64 i ∧ get fr 7 = .int .i64 q) ?_ (k := 4) ?_
     ·clear g1 g3 g4 g5 g6 hI hbB heB hb2 hq4 hsub
      clear bs es h
      rintro kk' fr st ⟨q, h, bs, es, hqk, rfl, hsub, hbB, heB, hI, g1, g3, g4, g5, g6, g7⟩
      have hb2 := hsub _ _ bB
      have hbB' := hbB
      have heB' := heB
      unfold AtB at hbB' heB'
      by_cases hq : q < 4
      ·have hq' : (q : Int) < 4 := by omega
       have hwq : IntKind.i64.wrap ((q : Int) + 1) = (q : Int) + 1 := by rw [w64_id] <;> omega
       have hr := (sB.trans hsub).rd (rq q hq)
       have hc5 := (sB.trans hsub).rdN hcr
       simp only [rd_def] at hr
       rw [rdN_def] at hc5
       simp only [crossC] at hc5
       by_cases h1 : x i q < 0
       ·simp [g1, g3, g4, g5, g6, g7, hq', rd_def, hb2, hi, hr, h1, endK_ret]
        intro hS
        have := hS.range (4 * i + q) (by omega)
        rw [huse q hq] at this
        simp only at this
        omega
       by_cases h2 : 2 * (n : Int) ≤ x i q
       ·simp [g1, g3, g4, g5, g6, g7, hq', rd_def, hb2, hi, hr, h1, h2, hw0, endK_ret]
        intro hS
        have := hS.range (4 * i + q) (by omega)
        rw [huse q hq] at this
        simp only at this
        omega
       obtain ⟨e, he⟩ : ∃ e : Nat, x i q = e := ⟨(x i q).toNat, by omega⟩
       have hen : e < 2 * n := by omega
       have hen' : (e : Int) < 2 * n := by omega
       have hen2 : e + 1 ≤ 2 * n := by omega
       have h2' : ¬ 2 * (n : Int) ≤ e := by omega
       have h1' : ¬ (e : Int) < 0 := by omega
       have hu := huse q hq
       rw [he] at hu hr
       have hlb := hI.lb
       have hle := hI.le
       have heb : e < bs.length := by omega
       have hee : e < es.length := by omega
       have hcb := hI.cb e hen
       have hce := hI.ce e hen
       have hub := useN_le x s e true (4 * i + q)
       have hue := useN_le x s e false (4 * i + q)
       have hwb : IntKind.i64.wrap (nth bs e + 1) = nth bs e + 1 := by rw [w64_id] <;> omega
       have hwe : IntKind.i64.wrap (nth es e + 1) = nth es e + 1 := by rw [w64_id] <;> omega
       cases hob : outB (s i) q with
       | true =>
        rw [hob] at hu
        have hin' := fun h => hin hq h
        rw [hob] at hin'
        rw [hp] at hin' hc5
        simp [g1, g3, g4, g5, g6, g7, hq', rd_def, rdN_def, wrN_def, hb2, hi, hr, h1', h2', hw0, hc5, DC_q hin', hbB', heB', hen', intsC_get heb, intsC_get hee, hwb, hwe, hlb, hle, intsC_set, hen2, hwq, hmin, hmin2]
        refine ⟨kk' - 1, by omega, q + 1, by omega, hsub.set (by omega) _, _, set_self hbB', es, set_ne heB' (by omega), hI.stepB hen hu, by omega⟩
       | false =>
        rw [hob] at hu
        have hin' := fun h => hin hq h
        rw [hob] at hin'
        rw [hp] at hin' hc5
        simp [g1, g3, g4, g5, g6, g7, hq', rd_def, rdN_def, wrN_def, hb2, hi, hr, h1', h2', hw0, hc5, DC_q hin', hbB', heB', hen', intsC_get heb, intsC_get hee, hwb, hwe, hlb, hle, intsC_set, hen2, hwq, hmin, hmin2]
        refine ⟨kk' - 1, by omega, q + 1, by omega, hsub.set (by omega) _, bs, set_ne hbB' (by omega), _, set_self heB', hI.stepE hen hu, by omega⟩
      ·have hq4 : q = 4 := by omega
       subst hq4
       have hw : IntKind.i64.wrap ((i : Int) + 1) = (i : Int) + 1 := by rw [w64_id] <;> omega
       simp [g1, g3, g4, g5, g6, g7, hw]
       refine ⟨kk - 1, by omega, i + 1, by omega, hsub, bs, hbB, es, heB, by rw [Nat.mul_add]; exact hI, fun c hc => ?_, by omega⟩
       by_cases e : c = i
       ·rw [e]; exact hs1
       ·exact hsg c (by omega)
     ·refine ⟨0, h, bs, es, by omega, rfl, hsub, hbB, heB, hI, ?_⟩
      simp [g1, g3, g4, g5, g6]
   ·have hs1' : ¬ s i = 1 := fun h => hs1 (.inl h)
    have hs2' : ¬ s i = -1 := fun h => hs1 (.inr h)
    simp [g1, g3, g4, g5, g6, hi, rd_def, hb2, hq4, hs1', hs2', endK_ret]
    exact fun hS => hs1 (hS.sign i hi)
  ·have hin : i = n := by omega
   subst hin
   simp [g1, g3, g4, g5, g6, rd_def, hb2]
   have hbB' := hbB
   have heB' := heB
   unfold AtB at hbB' heB'
   have hcnt := snd_counts (L := L) (by omega) (by omega) hsg hI.rg
   have hlb := hI.lb
   have hle := hI.le
   refine DW_loop (fun kk fr st => ∃ (e : Nat), e + kk = 2 * i ∧ st = ⟨h, h0.length⟩ ∧ (∀ a, a < e → useN x s a true (4 * i) = 1 ∧ useN x s a false (4 * i) = 1) ∧ get fr 3 = .int .i64 i ∧ get fr 4 = .slice (some ⟨m, 0, none⟩) (2 * i) (2 * i) ∧ get fr 5 = .slice (some ⟨m + 1, 0, none⟩) (2 * i) (2 * i) ∧ get fr 9 = .int .i64 e) ?_ (k := 2 * i) ?_
   ·clear g1 g3 g4 g5 g6
    rintro kk fr st ⟨e, hek, rfl, hP, g3, g4, g5, g9⟩
    by_cases he : e < 2 * i
    ·have he' : (e : Int) < 2 * i := by omega
     have heb : e < bs.length := by omega
     have hee : e < es.length := by omega
     have hw : IntKind.i64.wrap ((e : Int) + 1) = (e : Int) + 1 := by rw [w64_id] <;> omega
     have hcb := hI.cb e he
     have hce := hI.ce e he
     by_cases h1 : nth bs e = 1
     ·by_cases h2 : nth es e = 1
      ·simp [g3, g4, g5, g9, he', hw0, rd_def, hbB', heB', intsC_get heb, intsC_get hee, h1, h2, hw]
       refine ⟨kk - 1, by omega, e + 1, by omega, fun a ha => ?_, by omega⟩
       by_cases e' : a = e
       ·rw [e']; omega
       ·exact hP a (by omega)
      ·simp [g3, g4, g5, g9, he', hw0, rd_def, hbB', heB', intsC_get heb, intsC_get hee, h1, h2, hw, endK_ret]
       intro hS
       have := (hcnt.1 hS e he).2
       omega
     ·simp [g3, g4, g5, g9, he', hw0, rd_def, hbB', heB', intsC_get heb, intsC_get hee, h1, hw, endK_ret]
      intro hS
      have := (hcnt.1 hS e he).1
      omega
    ·have he' : ¬ (e : Int) < 2 * i := by omega
     simp [g3, g4, g5, g9, he', hw0, endK_ret]
     exact hcnt.2 fun a ha => hP a (by omega)
   ·exact ⟨0, by omega, rfl, fun a ha => by omega, by simp [g3, g4, g5]⟩
 ·refine ⟨0, h0 ++ [O.cells [.slice a n c, .int .i64 L] 24 (some 0), O.cells (rep (2 * n) [.int .i64 0]) 3 (some 0), O.cells (rep (2 * n) [.int .i64 0]) 3 (some 0)], List.replicate (2 * n) 0, List.replicate (2 * n) 0, by omega, rfl, ?_, ?_, ?_, ⟨by simp, by simp, ?_, ?_, fun j hj => by omega⟩, fun c hc => by omega, ?_⟩
  ·rw [hhB]; exact Ext.sub ⟨[O.cells (rep (2 * n) [.int .i64 0]) 3 (some 0), O.cells (rep (2 * n) [.int .i64 0]) 3 (some 0)], by simp⟩
  ·unfold AtB
   rw [hm, app_at]; simp [rep, intsC]
  ·unfold AtB
   rw [hm, Nat.add_assoc, app_at]; simp [rep, intsC]
  ·intro a ha; simp [nth, useN, cntP, ha]
  ·intro a ha; simp [nth, useN, cntP, ha]
  ·simp [hm]
end Go.Proofs.Ytjlkndkedknocaa
namespace Go.Proofs.Ytjlkndkedknocaa
open Go Go.Ai
attribute [local instance] Classical.propDecidable
variable {E : Env} (hE : OE E)
include hE
theorem checkR_ {h0 : List O} {a : Option Addr} {n c : Nat} {x : Nat → Nat → Int} {s : Nat → Int} {L : Int} (hx : CrossP h0 a n x s) :
  DR E 58 [dV a n c L] ⟨h0, h0.length⟩ (.ret (.int .i64 (kindD n x s L))) ⟨h0, h0.length⟩ := by
 refine hE.fn (body := rb58) rfl ?_
 unfold rb58
 have hc : ∀ l, CrossP (h0 ++ l) a n x s := fun l => hx.ext (Ext.snoc h0 l)
 have h1 := fun h k => sound_ hE (h0 := h) (a := a) (x := x) (c := c) (L := L) (n := n) (s := s) k
 by_cases hS : Snd n x s L
 ·have h2 := fun h k => planar_ hE (h0 := h) (a := a) (x := x) (c := c) k hS
  by_cases hP : PlanG (dgOf n x s L)
  ·simp only [dV, decide_eq_true hS, decide_eq_true hP] at h1 h2
   simp [dV, rdN_at0, DC_when h1, DC_when h2, hc, joined_fl, kindD, hS, hP]
  ·simp only [dV, decide_eq_true hS, decide_eq_false hP] at h1 h2
   simp [dV, rdN_at0, DC_when h1, DC_when h2, hc, joined_fl, kindD, hS, hP]
 ·simp only [dV, decide_eq_false hS] at h1
  simp [dV, rdN_at0, DC_when h1, hc, joined_fl, kindD, hS]
end Go.Proofs.Ytjlkndkedknocaa
namespace Go.Proofs.Ytjlkndkedknocaa
open Go Go.Ai
def textB : ByteArray := ByteArray.mk (List.toArray (43 :: 32 :: 51 :: 32 :: 49 :: 32 :: 52 :: 32 :: 48 :: 59 :: 32 :: 43 :: 32 :: 53 :: 32 :: 51 :: 32 :: 48 :: 32 :: 50 :: 59 :: 32 :: 43 :: 32 :: 49 :: 32 :: 53 :: 32 :: 50 :: 32 :: 52 :: 32 :: 124 :: 32 :: 48 :: []))
def rowT : List (List Int) := [[3, 1, 4, 0], [5, 3, 0, 2], [1, 5, 2, 4]]
def xT : Nat → Nat → Int := fun i j => nth (nthR rowT i) j
def sT : Nat → Int := fun _ => 1
set_option maxRecDepth 100000
theorem textB_size : textB.size = 35 := by kernel_rfl
theorem tk_plus : (List.range 3).all (fun i => tkB textB (ByteArray.mk (List.toArray [43])) (11 * i)) = true := by kernel_rfl
theorem tk_blank : (List.range 3).all (fun i => (List.range 4).all fun q => tkB textB (ByteArray.mk (List.toArray [32])) (11 * i + 1 + 2 * q)) = true := by kernel_rfl
theorem tk_num : (List.range 3).all (fun i => (List.range 4).all fun q => numB textB (11 * i + 2 + 2 * q) (xT i q).toNat) = true := by kernel_rfl
theorem tk_semi : (List.range 2).all (fun i => tkB textB (ByteArray.mk (List.toArray [59, 32])) (11 * i + 9)) = true := by kernel_rfl
theorem tk_semi2 : tkB textB (ByteArray.mk (List.toArray [59, 32])) 31 = false := by kernel_rfl
theorem tk_bar : tkB textB (ByteArray.mk (List.toArray [32, 124, 32])) 31 = true := by kernel_rfl
theorem tk_end : numB textB 34 0 = true := by kernel_rfl
def cellQ (i q : Nat) : List Value := [.int .i64 (if 0 < q then xT i 0 else 0), .int .i64 (if 1 < q then xT i 1 else 0), .int .i64 (if 2 < q then xT i 2 else 0), .int .i64 (if 3 < q then xT i 3 else 0), .int .i64 1]
theorem cellQ_set {i q : Nat} (h : q < 4) : (cellQ i q).set q (.int .i64 (xT i q)) = cellQ i (q + 1) := by
 match q, h with
 | 0, _ => rfl
 | 1, _ => rfl
 | 2, _ => rfl
 | 3, _ => rfl
def cellT : Nat → List Value
 | 0 => []
 | i + 1 => cellT i ++ cellQ i 4
attribute [local instance] Classical.propDecidable
def ParP (h0 : List O) (o : Out) (st' : St) : Prop := ∃ a c, o = .ret (.tuple #[dV a 3 c 0, .int .i64 0]) ∧ Sub h0 st'.h ∧ h0.length ≤ st'.fl ∧ CrossP st'.h a 3 xT sT
def rdrC (pos : Int) (ok : Bool) : List Value := [.string textB, .int .i64 pos, .bool ok]
variable {E : Env} (hE : OE E)
include hE
theorem tk_ {h : List O} {R pos m : Nat} {s : ByteArray} (hr : h[R]? = some (.cells (rdrC pos true) 223 (some 0))) (hs : s.size = m) (hm : m ≤ 100) (hp : pos ≤ 35) (hb : tkB textB s pos = true) :
  DR E 182 [.pointer (some ⟨R, 0, none⟩), .string s] ⟨h, h.length⟩ (.ret (.bool true)) ⟨h.set R (.cells (rdrC ((pos + m : Nat) : Int) true) 223 (some 0)), R⟩ := by
 have hz := textB_size
 subst hs
 exact takeT_ hE hr (by omega) hm (by omega) hb
theorem tkF_ {h : List O} {R pos : Nat} {s : ByteArray} (hr : h[R]? = some (.cells (rdrC pos true) 223 (some 0))) (hm : s.size ≤ 100) (hp : pos ≤ 35) (hb : tkB textB s pos = false) :
  DR E 182 [.pointer (some ⟨R, 0, none⟩), .string s] ⟨h, h.length⟩ (.ret (.bool false)) ⟨h, h.length⟩ := by
 have hz := textB_size
 exact takeF_ hE hr (by omega) hm (by omega) hb
theorem parse_ (hk : kindD 3 xT sT 0 = 0) {h0 : List O} : DC E 129 [.string textB] ⟨h0, h0.length⟩ (ParP h0) := by
 refine hE.fnC (body := rb129) rfl ?_
 unfold rb129
 have hz := textB_size
 have hone : one1 (.string textB) = true := rfl
 have hcs : (Value.string textB).cells = #[.string textB] := rfl
 simp [hz, hcs, hone, wrN_at0, wrN_at, set_at0, set_at, List.append_assoc]
 refine DW_loop (fun kk fr st => ∃ (i : Nat) (h : List O) (v : Value), i + kk = 2 ∧ st = ⟨h, h0.length⟩ ∧ Sub h0 h ∧ AtB h h0.length (.cells [.slice none 0 0, .int .i64 0] 24 (some 0)) ∧ AtB h (h0.length + 1) (.cells (rdrC ((11 * i : Nat) : Int) true) 223 (some 0)) ∧ AtB h (h0.length + 2) (.cells [v, .int .i64 0] 24 (some 0)) ∧ OwnS h (h0.length + 3) v i (cellT i) 107 5 ∧ h0.length + 3 ≤ h.length ∧
  get fr 0 = .string textB ∧ get fr 2 = .pointer (some ⟨h0.length, 0, none⟩) ∧ get fr 4 = .pointer (some ⟨h0.length + 1, 0, none⟩) ∧ get fr 5 = .pointer (some ⟨h0.length + 2, 0, none⟩)) ?_ (k := 2) ?_
 ·rintro kk fr st ⟨i, h, v, hik, rfl, hsub, a0, a1, a2, hu, hl, g0, g2, g4, g5⟩
  obtain ⟨L, hL⟩ : ∃ L, L = h0.length := ⟨_, rfl⟩
  obtain ⟨R, hR⟩ : ∃ R, R = h0.length + 1 := ⟨_, rfl⟩
  obtain ⟨D, hD⟩ : ∃ D, D = h0.length + 2 := ⟨_, rfl⟩
  rw [← hL] at a0 g2
  rw [← hR] at a1 g4
  rw [← hD] at a2 g5
  unfold AtB at a0 a1 a2
  have a1' := a1
  simp only [rdrC] at a1'
  simp [g0, g2, g4, g5, rd_def, ↓a1', wrN_at0, set_at0]
  have hi3 : i < 3 := by omega
  have lR := (List.getElem?_eq_some_iff.1 a1).1
  have lD := (List.getElem?_eq_some_iff.1 a2).1
  obtain ⟨C, hC⟩ : ∃ C, C = h.length := ⟨_, rfl⟩
  obtain ⟨Hc, hHc⟩ : ∃ H, H = h ++ [O.cells [.int .i64 0, .int .i64 0, .int .i64 0, .int .i64 0, .int .i64 0] 107 (some 0)] := ⟨_, rfl⟩
  have lc : Hc.length = h.length + 1 := by rw [hHc]; simp
  have b1 : Hc[R]? = some (.cells (rdrC ((11 * i : Nat) : Int) true) 223 (some 0)) := by rw [hHc]; exact app_of a1 _
  have b2 : Hc[D]? = some (.cells [v, .int .i64 0] 24 (some 0)) := by rw [hHc]; exact app_of a2 _
  have b3 : Hc[C]? = some (O.cells [.int .i64 0, .int .i64 0, .int .i64 0, .int .i64 0, .int .i64 0] 107 (some 0)) := by rw [hHc, hC, app_at0]; rfl
  have t1 := tk_ hE (s := ⟨#[43]⟩) (m := 1) b1 rfl (by omega) (by omega) (List.all_eq_true.1 tk_plus i (List.mem_range.2 hi3))
  rw [← hHc, ← hC, show C + 1 = Hc.length by omega]
  refine (DC_of t1).2 ?_
  obtain ⟨H1, hH1⟩ : ∃ H, H = Hc.set R (.cells (rdrC ((11 * i + 1 : Nat) : Int) true) 223 (some 0)) := ⟨_, rfl⟩
  have c3 : H1[C]? = some (O.cells [.int .i64 0, .int .i64 0, .int .i64 0, .int .i64 0, .int .i64 0] 107 (some 0)) := by rw [hH1]; exact set_ne b3 (by omega)
  obtain ⟨H2, hH2⟩ : ∃ H, H = H1.set C (.cells (cellQ i 0) 107 (some 0)) := ⟨_, rfl⟩
  have hH2' : H2 = H1.set C (.cells [.int .i64 0, .int .i64 0, .int .i64 0, .int .i64 0, .int .i64 1] 107 (some 0)) := hH2
  have hj1 : joined ⟨Hc, h0.length⟩ ⟨H1, R⟩ = ⟨H1, h0.length⟩ := by
   simp only [joined]
   rw [if_pos (by omega)]
   congr 1
   omega
  have hmC : min h0.length C = h0.length := by omega
  rw [← hH1]
  simp [hj1, wrN_def, c3, ← hH2', hmC]
  have d1 : H2[R]? = some (.cells (rdrC ((11 * i + 1 : Nat) : Int) true) 223 (some 0)) := by rw [hH2, hH1]; exact set_ne (set_self b1) (by omega)
  have d2 : H2[C]? = some (.cells (cellQ i 0) 107 (some 0)) := by rw [hH2]; exact set_self c3
  have l2 : H2.length = h.length + 1 := by rw [hH2, hH1]; simp [lc]
  have K2 : ∀ (b : Nat) (o : O), h[b]? = some o → b ≠ R → H2[b]? = some o := fun b o hb hn => by
   have := (List.getElem?_eq_some_iff.1 hb).1
   rw [hH2, hH1, hHc]
   exact set_ne (set_ne (app_of hb _) hn) (by omega)
  refine DW_loop (fun kk' fr st => ∃ (q : Nat) (h' : List O), q + kk' = 4 ∧ st = ⟨h', h0.length⟩ ∧ h'.length = H2.length ∧ AtB h' R (.cells (rdrC ((11 * i + 1 + 2 * q : Nat) : Int) true) 223 (some 0)) ∧ AtB h' C (.cells (cellQ i q) 107 (some 0)) ∧ (∀ (b : Nat) (o : O), h[b]? = some o → b ≠ R → h'[b]? = some o) ∧
   get fr 0 = .string textB ∧ get fr 2 = .pointer (some ⟨L, 0, none⟩) ∧ get fr 4 = .pointer (some ⟨R, 0, none⟩) ∧ get fr 5 = .pointer (some ⟨D, 0, none⟩) ∧ get fr 6 = .pointer (some ⟨C, 0, none⟩) ∧ get fr 7 = .int .i64 q) ?_ (k := 4) ?_
  ·clear g0 g2 g4 g5
   rintro kk' fr st ⟨q, h', hqk, rfl, hl', e1, e2, hk', g0, g2, g4, g5, g6, g7⟩
   unfold AtB at e1 e2
   by_cases hq : q < 4
   ·have hw : IntKind.i64.wrap ((q : Int) + 1) = (q : Int) + 1 := by rw [w64_id] <;> omega
    have hq' : (q : Int) < 4 := by omega
    have tb := List.all_eq_true.1 (List.all_eq_true.1 tk_blank i (List.mem_range.2 hi3)) q (List.mem_range.2 hq)
    have tn := List.all_eq_true.1 (List.all_eq_true.1 tk_num i (List.mem_range.2 hi3)) q (List.mem_range.2 hq)
    obtain ⟨p, hp⟩ : ∃ p, p = 11 * i + 1 + 2 * q := ⟨_, rfl⟩
    obtain ⟨p1, hp1⟩ : ∃ p1, p1 = p + 1 := ⟨_, rfl⟩
    obtain ⟨p2, hp2⟩ : ∃ p2, p2 = p + 2 := ⟨_, rfl⟩
    rw [← hp] at e1 tb
    rw [show 11 * i + 2 + 2 * q = p1 by omega] at tn
    have t2 := tk_ hE (s := ⟨#[32]⟩) (m := 1) e1 rfl (by omega) (by omega) tb
    rw [← hp1] at t2
    have e1' := e1
    simp only [rdrC] at e1'
    obtain ⟨h5, hh5⟩ : ∃ H, H = h'.set R (.cells (rdrC (p1 : Int) true) 223 (some 0)) := ⟨_, rfl⟩
    rw [← hh5] at t2
    have l5 : h5.length = h'.length := by rw [hh5]; simp
    have f1 : h5[R]? = some (.cells (rdrC (p1 : Int) true) 223 (some 0)) := by rw [hh5]; exact set_self e1
    have f2 : h5[C]? = some (.cells (cellQ i q) 107 (some 0)) := by rw [hh5]; exact set_ne e2 (by omega)
    have f1' := f1
    simp only [rdrC] at f1'
    have hs5 : h5.set R (.cells (rdrC (p1 : Int) true) 223 (some 0)) = h5 := by
     apply List.ext_getElem?
     intro b
     by_cases hb : b = R
     ·subst hb; rw [f1]; exact set_self f1
     ·rw [List.getElem?_set_ne (fun e => hb e.symm)]
    simp only [rdrC] at hs5
    have t3 := numberB_ hE (h := h5) f1 (by rw [hz]; omega) tn
    obtain ⟨h6, hh6⟩ : ∃ H, H = h5.set R (.cells (rdrC (p2 : Int) true) 223 (some 0)) := ⟨_, rfl⟩
    have t3' : DR E 183 [.pointer (some ⟨R, 0, none⟩)] ⟨h5, h5.length⟩ (.ret (.int .i64 ((xT i q).toNat : Int))) ⟨h6, R⟩ := by
     rw [hh6, show ((p2 : Nat) : Int) = (p1 : Int) + 1 by omega]
     exact t3
    have f5 : h6[R]? = some (.cells (rdrC (p2 : Int) true) 223 (some 0)) := by rw [hh6]; exact set_self f1
    have f6 : h6[C]? = some (.cells (cellQ i q) 107 (some 0)) := by rw [hh6]; exact set_ne f2 (by omega)
    have l6 : h6.length = h'.length := by rw [hh6, List.length_set, l5]
    have K6 : ∀ (b : Nat) (o : O), h[b]? = some o → b ≠ R → h6[b]? = some o := fun b o hb hn => by rw [hh6, hh5]; exact set_ne (set_ne (hk' b o hb hn) hn) hn
    have hxq : ((xT i q).toNat : Int) = xT i q := by
     match i, hi3, q, hq with
     | 0, _, 0, _ => rfl
     | 0, _, 1, _ => rfl
     | 0, _, 2, _ => rfl
     | 0, _, 3, _ => rfl
     | 1, _, 0, _ => rfl
     | 1, _, 1, _ => rfl
     | 1, _, 2, _ => rfl
     | 1, _, 3, _ => rfl
     | 2, _, 0, _ => rfl
     | 2, _, 1, _ => rfl
     | 2, _, 2, _ => rfl
     | 2, _, 3, _ => rfl
    rw [hxq] at t3'
    have hj2 : ∀ x y : List O, R < x.length → joined ⟨x, h0.length⟩ ⟨y, R⟩ = ⟨y, h0.length⟩ := fun x y hx => by
     simp only [joined]
     rw [if_pos hx]
     congr 1
     omega
    have hj5 := hj2 h' h5 (by omega)
    have hj6 := hj2 h5 h6 (by omega)
    have hcl : (cellQ i q).length = 5 := rfl
    have hmR : min h0.length R = h0.length := by omega
    have hmC : min h0.length C = h0.length := by omega
    have hq5 : q + 1 ≤ 5 := by omega
    simp [g0, g2, g4, g5, g6, g7, hq', rd_def, ↓e1', DC_of t2, hj5, hmR, ↓f1', wrN_def, hs5, DC_of t3', hj6, f6, hcl, hq5, hw, hmC, cellQ_set hq]
    have hpc : ((p2 : Nat) : Int) = 11 * (i : Int) + 1 + 2 * ((q + 1 : Nat) : Int) := by omega
    rw [hpc] at f5
    exact ⟨kk' - 1, by omega, q + 1, by omega, by omega, set_ne f5 (by omega), set_self f6, fun b o hb hn => set_ne (K6 b o hb hn) (by have := (List.getElem?_eq_some_iff.1 hb).1; omega), by omega⟩
   ·obtain rfl : q = 4 := by omega
    have hc4 : cellQ i 4 = [.int .i64 (xT i 0), .int .i64 (xT i 1), .int .i64 (xT i 2), .int .i64 (xT i 3), .int .i64 1] := rfl
    obtain ⟨p, hp⟩ : ∃ p, p = 11 * i + 9 := ⟨_, rfl⟩
    rw [show 11 * i + 1 + 2 * 4 = p by omega] at e1
    have a2' := hk' _ _ a2 (by omega)
    have e2' := e2
    rw [hc4] at e2'
    have hu' : OwnS h' (h0.length + 3) v i (cellT i) 107 5 := hu.keep fun b s z1 z2 => by
     rcases hu.2 with ⟨w1, _⟩ | ⟨b2, s2, w1, w2, w3, _⟩
     ·rw [w1] at z1; cases z1
     ·rw [w1] at z1
      simp only [Value.slice.injEq, Option.some.injEq, Addr.mk.injEq] at z1
      exact hk' b _ z2 (by omega)
    obtain ⟨h7, hh7⟩ : ∃ H, H = h' ++ [O.cells [.int .i64 (xT i 0), .int .i64 (xT i 1), .int .i64 (xT i 2), .int .i64 (xT i 3), .int .i64 1] 107 (some 0)] := ⟨_, rfl⟩
    have hread : readSlice h7 5 1 (some ⟨h'.length, 0, none⟩) = some (cellQ i 4) := by rw [hh7, hc4]; simp [readSlice, rdN_at0]
    obtain ⟨b', h8, f8, happ, hb', hown, hf1, hf2, hL8, K8⟩ := append_S (fl := h0.length) (c := 1) (bytes := 40) (hu'.ext (by rw [hh7]; exact Ext.snoc _ _)) hread rfl rfl (by rw [hh7]; simp; omega) (by simp only [roomMax]; omega) (by omega)
    have hone7 : [Value.int .i64 (xT i 0), .int .i64 (xT i 1), .int .i64 (xT i 2), .int .i64 (xT i 3), .int .i64 1].all one1 = true := rfl
    have hvne : ∀ b, b < h0.length + 3 → ∀ n c, v ≠ .slice (some ⟨b, 0, none⟩) n c := fun b hb n c e => by
     rcases hu.2 with ⟨w1, _⟩ | ⟨b2, s2, w1, w2, _⟩
     ·rw [w1] at e; cases e
     ·rw [w1] at e
      simp only [Value.slice.injEq, Option.some.injEq, Addr.mk.injEq] at e
      omega
    have k8 : ∀ (b : Nat) (o : O), b < h0.length + 3 → h'[b]? = some o → h8[b]? = some o := fun b o hb ho => K8 b o (by rw [hh7]; exact app_of ho _) (hvne b hb)
    have m2 := k8 D _ (by omega) a2'
    have m1 := k8 R _ (by omega) e1
    obtain rfl : f8 = h0.length := by omega
    obtain ⟨v', hv'⟩ : ∃ v', v' = Value.slice (some ⟨b', 0, none⟩) (i + 1) (i + 1) := ⟨_, rfl⟩
    rw [← hv'] at happ hown
    obtain ⟨h9, hh9⟩ : ∃ H, H = h8.set D (.cells [v', .int .i64 0] 24 (some 0)) := ⟨_, rfl⟩
    have l7 : h7.length = h'.length + 1 := by rw [hh7]; simp
    have l9 : h9.length = h8.length := by rw [hh9]; simp
    have n1 : h9[R]? = some (.cells (rdrC (p : Int) true) 223 (some 0)) := by rw [hh9]; exact set_ne m1 (by omega)
    have n2 : h9[D]? = some (.cells [v', .int .i64 0] 24 (some 0)) := by rw [hh9]; exact set_self m2
    have hone' : one1 v' = true := by rw [hv']; rfl
    have hcs' : v'.cells = #[v'] := by rw [hv']; rfl
    have hmD : min h0.length D = h0.length := by omega
    have hmR : min h0.length R = h0.length := by omega
    have hj2 : ∀ x y : List O, R < x.length → joined ⟨x, h0.length⟩ ⟨y, R⟩ = ⟨y, h0.length⟩ := fun x y hx => by
     simp only [joined]
     rw [if_pos hx]
     congr 1
    have k9 : ∀ (b : Nat) (o : O), h[b]? = some o → b < h0.length + 3 → b ≠ R → b ≠ D → h9[b]? = some o := fun b o ho hb hn hn2 => by rw [hh9]; exact set_ne (k8 b o hb (hk' b o ho hn)) hn2
    have own9 : ∀ y, y < h0.length + 3 → ∀ o', OwnS (h9.set y o') (h0.length + 3) v' (i + 1) (cellT (i + 1)) 107 5 := fun y hy o' => hown.keep fun b s z1 z2 => by
     rw [hv'] at z1
     simp only [Value.slice.injEq, Option.some.injEq, Addr.mk.injEq] at z1
     rw [hh9]
     exact set_ne (set_ne z2 (by omega)) (by omega)
    by_cases hi2 : i < 2
    ·have t4 := tk_ hE (s := ⟨#[59, 32]⟩) (m := 2) n1 rfl (by omega) (by omega) (by rw [hp]; exact List.all_eq_true.1 tk_semi i (List.mem_range.2 hi2))
     obtain ⟨p2, hp2⟩ : ∃ p2, p2 = p + 2 := ⟨_, rfl⟩
     rw [← hp2] at t4
     obtain ⟨h10, hh10⟩ : ∃ H, H = h9.set R (.cells (rdrC (p2 : Int) true) 223 (some 0)) := ⟨_, rfl⟩
     rw [← hh10] at t4
     have hj10 := hj2 h9 h10 (by omega)
     simp [g0, g2, g4, g5, g6, g7, rd_def, ↓a2', rdN_def, ↓e2', ← hh7, happ, wrN_def, m2, hone', hcs', ← hh9, hmD, DC_of t4, hj10]
     have hpc : ((p2 : Nat) : Int) = 11 * ((i + 1 : Nat) : Int) := by omega
     refine ⟨kk - 1, by omega, i + 1, by omega, ?_, ?_, ?_, v', ?_, ?_, ?_⟩
     ·intro b o hb
      have := (List.getElem?_eq_some_iff.1 hb).1
      rw [hh10]
      exact set_ne (k9 b o (hsub b o hb) (by omega) (by omega) (by omega)) (by omega)
     ·rw [hh10, ← hL]
      exact set_ne (k9 _ _ a0 (by omega) (by omega) (by omega)) (by omega)
     ·rw [hh10, ← hR, ← hpc]
      exact set_self n1
     ·rw [hh10, ← hD]
      exact set_ne n2 (by omega)
     ·rw [hh10]
      exact own9 _ (by omega) _
     ·rw [hh10, List.length_set]
      omega
    ·obtain rfl : i = 2 := by omega
     have t4 := tkF_ hE (s := ⟨#[59, 32]⟩) n1 (by decide) (by omega) (by rw [hp]; exact tk_semi2)
     have t5 := tk_ hE (s := ⟨#[32, 124, 32]⟩) (m := 3) n1 rfl (by omega) (by omega) (by rw [hp]; exact tk_bar)
     obtain ⟨p2, hp2⟩ : ∃ p2, p2 = p + 3 := ⟨_, rfl⟩
     rw [← hp2] at t5
     obtain ⟨h10, hh10⟩ : ∃ H, H = h9.set R (.cells (rdrC (p2 : Int) true) 223 (some 0)) := ⟨_, rfl⟩
     rw [← hh10] at t5
     have hj9 : joined ⟨h9, h0.length⟩ ⟨h9, h9.length⟩ = ⟨h9, h0.length⟩ := joined_mk _ _
     have hj10 := hj2 h9 h10 (by omega)
     have n1' := n1
     simp only [rdrC] at n1'
     have r1 : h10[R]? = some (.cells (rdrC (p2 : Int) true) 223 (some 0)) := by rw [hh10]; exact set_self n1
     have r1' := r1
     simp only [rdrC] at r1'
     have hs10 : h10.set R (.cells (rdrC (p2 : Int) true) 223 (some 0)) = h10 := by
      apply List.ext_getElem?
      intro b
      by_cases hb : b = R
      ·subst hb; rw [r1]; exact set_self r1
      ·rw [List.getElem?_set_ne (fun e => hb e.symm)]
     simp only [rdrC] at hs10
     have t6 := numberB_ hE (h := h10) r1 (by rw [hz]; omega) (show numB textB p2 0 = true by rw [hp2, hp]; exact tk_end)
     obtain ⟨h11, hh11⟩ : ∃ H, H = h10.set R (.cells (rdrC ((35 : Nat) : Int) true) 223 (some 0)) := ⟨_, rfl⟩
     have t6' : DR E 183 [.pointer (some ⟨R, 0, none⟩)] ⟨h10, h10.length⟩ (.ret (.int .i64 0)) ⟨h11, R⟩ := by
      rw [hh11, show ((35 : Nat) : Int) = (p2 : Int) + 1 by omega]
      exact t6
     have l10 : h10.length = h9.length := by rw [hh10]; simp
     have hj11 := hj2 h10 h11 (by omega)
     have u1 : h11[R]? = some (.cells [.string textB, .int .i64 35, .bool true] 223 (some 0)) := by rw [hh11]; exact set_self r1
     have u2 : h11[D]? = some (.cells [v', .int .i64 0] 24 (some 0)) := by rw [hh11, hh10]; exact set_ne (set_ne n2 (by omega)) (by omega)
     have hsD : h11.set D (.cells [v', .int .i64 0] 24 (some 0)) = h11 := by
      apply List.ext_getElem?
      intro b
      by_cases hb : b = D
      ·subst hb; rw [u2]; exact set_self u2
      ·rw [List.getElem?_set_ne (fun e => hb e.symm)]
     have u0 : h11[L]? = some (.cells [.slice none 0 0, .int .i64 0] 24 (some 0)) := by rw [hh11, hh10]; exact set_ne (set_ne (k9 _ _ a0 (by omega) (by omega) (by omega)) (by omega)) (by omega)
     have l11 : h11.length = h9.length := by rw [hh11, List.length_set, l10]
     obtain ⟨s8, own8⟩ : ∃ s, h8[b']? = some (.cells (cellT 3) 107 (some s)) := by
      rcases hown.2 with ⟨w1, _⟩ | ⟨b2, s2, w1, w2, w3, _⟩
      ·rw [hv'] at w1; cases w1
      ·rw [hv'] at w1
       simp only [Value.slice.injEq, Option.some.injEq, Addr.mk.injEq] at w1
       obtain ⟨⟨rfl, _⟩, _⟩ := w1
       exact ⟨s2, w3⟩
     have own11 : h11[b']? = some (.cells (cellT 3) 107 (some s8)) := by
      rw [hh11, hh10, hh9]
      exact set_ne (set_ne (set_ne own8 (by omega)) (by omega)) (by omega)
     have hx11 : CrossP h11 (some ⟨b', 0, none⟩) 3 xT sT := ⟨b', 0, fun _ => rfl, fun j hj => by
      rw [rdN_def, own11]
      match j, hj with
      | 0, _ => rfl
      | 1, _ => rfl
      | 2, _ => rfl⟩
     have hck := checkR_ hE (c := 3) (L := 0) hx11
     rw [hk] at hck
     simp [dV] at hck
     subst hv'
     have hmL : min h0.length L = h0.length := by omega
     simp [g0, g2, g4, g5, g6, g7, rd_def, ↓a2', rdN_def, ↓e2', ← hh7, happ, wrN_def, m2, ← hh9, hmD, DC_of t4, hj9, ↓n1', DC_of t5, hj10, ↓r1', hs10, hmR, DC_of t6', hj11, ↓u1, ↓u2, hsD, hz, DC_of hck, ↓u0, hmL]
     have hself : (h11.set L (O.cells [.slice (some ⟨b', 0, none⟩) 3 3, .int .i64 0] 24 (some 0)))[L]? = some (O.cells [.slice (some ⟨b', 0, none⟩) 3 3, .int .i64 0] 24 (some 0)) := set_self u0
     simp [↓hself]
     have hP : ParP h0 (.ret (.tuple #[dV (some ⟨b', 0, none⟩) 3 3 0, .int .i64 0])) ⟨h11.set L (O.cells [.slice (some ⟨b', 0, none⟩) 3 3, .int .i64 0] 24 (some 0)), h0.length⟩ := by
      refine ⟨_, _, rfl, fun b o hb => ?_, Nat.le_refl _, b', 0, fun _ => rfl, fun j hj => ?_⟩
      ·have := (List.getElem?_eq_some_iff.1 hb).1
       rw [hh11, hh10]
       exact set_ne (set_ne (set_ne (k9 b o (hsub b o hb) (by omega) (by omega) (by omega)) (by omega)) (by omega)) (by omega)
      ·rw [rdN_def, set_ne own11 (by omega)]
       match j, hj with
       | 0, _ => rfl
       | 1, _ => rfl
       | 2, _ => rfl
     unfold pairQ back
     rw [if_neg (by simp [Out.scalar, scalar, flat1, flat])]
     exact hP
  ·exact ⟨0, H2, by omega, rfl, rfl, d1, d2, K2, by simp [g0, g2, g4, g5]⟩
 ·refine ⟨0, _, .slice none 0 0, rfl, rfl, (Sub.refl h0).app _, ?_, ?_, ?_, OwnS.nil _ _ _ _, by simp, by simp⟩
  ·unfold AtB; rw [app_at0]; rfl
  ·unfold AtB; rw [app_at]; rfl
  ·unfold AtB; rw [app_at]; rfl
end Go.Proofs.Ytjlkndkedknocaa
namespace Go.Proofs.Ytjlkndkedknocaa
open Go Go.Ai
theorem c57_0a : cmpT 43 (lcA 57 0) = some ra57_0 := by kernel_rfl
theorem c57_0b : cmpT 43 (lcB 57 0) = some rl57_0 := by kernel_rfl
theorem c70_0a : cmpT 98 (lcA 70 0) = some ra70_0 := by kernel_rfl
theorem c70_0b : cmpT 98 (lcB 70 0) = some rl70_0 := by kernel_rfl
theorem c219_0a : cmpT 46 (lcA 219 0) = some ra219_0 := by kernel_rfl
theorem c219_0b : cmpT 46 (lcB 219 0) = some rl219_0 := by kernel_rfl
theorem E0_cmp : E0.cmp = cmpT := by unfold E0; rfl
theorem E0_S (f : FuncId) : E0.S f = none := by unfold E0; rfl
theorem E0_OE : OE E0 := ⟨fun f rf h => h, fun f h _ => E0_S f, fun k => E0_S _, by rw [E0_cmp]; exact c57_0a, by rw [E0_cmp]; exact c57_0b, by rw [E0_cmp]; exact c70_0a, by rw [E0_cmp]; exact c70_0b, by rw [E0_cmp]; exact c219_0a, by rw [E0_cmp]; exact c219_0b⟩
theorem OE.sum148 {E : Env} (h : OE E) : OE (withK E 4 148) := ⟨h.F, fun f hf h148 => (if_neg h148).trans (h.S f hf h148), fun k => (if_neg (Nat.ne_of_gt (Nat.lt_of_lt_of_le (show 148 < yB by decide) (Nat.le_add_right _ _)))).trans (h.Y k), h.c57_0a, h.c57_0b, h.c70_0a, h.c70_0b, h.c219_0a, h.c219_0b⟩
end Go.Proofs.Ytjlkndkedknocaa
namespace Go.Proofs.Ytjlkndkedknocaa
open Go Go.Ai
def seenN : Option (Out × St) → Option Int
 | some (.ret (.int _ n), _) => some n
 | _ => none
theorem seenN_some {x : Option (Out × St)} {n : Int} (h : seenN x = some n) : ∃ k st, x = some (.ret (.int k n), st) := by
 unfold seenN at h
 split at h
 ·obtain rfl := Option.some.inj h; exact ⟨_, _, rfl⟩
 ·cases h
noncomputable def trefH : List O := [.cells (cellT 3) 107 (some 0)]
set_option maxRecDepth 100000 in
theorem tref_run : seenN (call E0 400 87 [dV (some ⟨0, 0, none⟩) 3 3 0] ⟨trefH, 1⟩) = some 0 := by kernel_rfl
theorem trefP : CrossP trefH (some ⟨0, 0, none⟩) 3 xT sT := ⟨0, 0, fun _ => rfl, fun i hi => by
 match i, hi with
 | 0, _ => rfl
 | 1, _ => rfl
 | 2, _ => rfl⟩
theorem kind_T : kindD 3 xT sT 0 = 0 := by
 obtain ⟨k, st, h⟩ := seenN_some tref_run
 have h1 := check_ E0_OE (c := 3) (L := 0) trefP
 have h3 := (DR.unique h1 ⟨400, h⟩).1
 simp only [Out.ret.injEq, Value.int.injEq] at h3
 exact h3.2
end Go.Proofs.Ytjlkndkedknocaa
