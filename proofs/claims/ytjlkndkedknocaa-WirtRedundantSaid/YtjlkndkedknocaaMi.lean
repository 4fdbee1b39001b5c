/- Texts that were built one by one: Wc9, Wd1, Wd2, Wd3, Wd4, Wo3, Wo4, Wo5, Wo6, Wl1, Wr12, Wl11, Wl11b. -/
import Derived.Test.YtjlkndkedknocaaMh
import Derived.Test.YtjlkndkedknocaaMd
import Derived.Test.YtjlkndkedknocaaMg
import Derived.Test.YtjlkndkedknocaaMf
set_option linter.unusedSimpArgs false
set_option linter.unusedVariables false
namespace Go.Proofs.Ytjlkndkedknocaa
open Go Go.Ai
attribute [local instance] Classical.propDecidable
variable {E : Env} (hE : OE E)
include hE
theorem visit2_ {hV : List O} {aa : Option Addr} {pI pG pY pA pK pR pN pV pO B1 B2 k n gens base : Nat} {rels : List (List Int)} (hn : 1 ≤ n ∧ n ≤ 6) (hgens : gens ≤ 600)
  (hPerm : ∀ q, q < (permL n).length → PermL n (nthR (permL n) q)) (hlet : ∀ r ∈ rels, LetOk (lastW r) r) (hrels : rels.length < 1000000)
  (hfix : ∀ h, SubX pI pK B1 B2 pO hV h → hV.length ≤ h.length → FixI E h aa pG pY pA pR pN pV pO k n gens (visV2 pI pG pY pA pK pR pN pV) rels)
  (hb : base ≤ pI ∧ base ≤ pK ∧ base ≤ B1 ∧ base ≤ B2 ∧ base ≤ pO ∧ base ≤ k) (hl : pI < hV.length ∧ pK < hV.length ∧ B1 < hV.length ∧ B2 < hV.length ∧ pO < hV.length ∧ k < hV.length) (hbl : base ≤ hV.length)
  (d1 : pI ≠ pK) (d2 : pI ≠ B1) (d3 : pI ≠ B2) (d4 : pI ≠ pO) (d5 : pK ≠ B1) (d6 : pK ≠ B2) (d7 : pK ≠ pO) (d8 : B1 ≠ B2) (d9 : B1 ≠ pO) (d10 : B2 ≠ pO) :
  ∀ (m : Nat) {h : List O} {im : List (List Int)} {c : Int}, im.length + m = gens → (∀ q, q < im.length → PermL n (nthR im q)) → SubX pI pK B1 B2 pO hV h → hV.length ≤ h.length → DynI h pI pK B1 B2 pO n gens im.length c im → 0 ≤ c → c + ((permL n).length ^ m : Nat) ≤ 10000000000 →
   DC E 189 [.pointer (some ⟨pI, 0, none⟩), .pointer (some ⟨pG, 0, none⟩), .pointer (some ⟨pY, 0, none⟩), .pointer (some ⟨pA, 0, none⟩), .pointer (some ⟨pK, 0, none⟩), .pointer (some ⟨pR, 0, none⟩), .pointer (some ⟨pN, 0, none⟩), .pointer (some ⟨pV, 0, none⟩)] ⟨h, h.length⟩ fun o st' =>
    o = .ret (.bool true) ∧ base ≤ st'.fl ∧ st'.fl < hV.length ∧ h.length ≤ st'.h.length ∧ SubX pI pK B1 B2 pO h st'.h ∧ DynI st'.h pI pK B1 B2 pO n gens im.length (c + cntV n (permL n) rels m im) im := by
 intro m
 induction m with
 | zero =>
  intro h im c hm him hs hlen hD hc0 hc1
  refine hE.fnC (body := rb189) rfl ?_
  unfold rb189
  have hF := hfix h hs hlen
  obtain ⟨vr, fg⟩ := hF.g
  have fy := hF.y
  have e1 := hD.i
  have hgl : im.length = gens := by omega
  rw [hgl] at e1
  have hcall := hF.call (.slice (some ⟨B1, 0, none⟩) gens gens) c hD.o ⟨hc0, by omega⟩
  have hfl : min pO k < h.length := by omega
  have hjd : joined ⟨h, h.length⟩ ⟨h.set pO (.cells [.int .i64 (c + 1)] 3 (some 0)), min pO k⟩ = ⟨h.set pO (.cells [.int .i64 (c + 1)] 3 (some 0)), min pO k⟩ := by
   simp only [joined]
   rw [if_pos hfl]
   congr 1
   omega
  simp [rd_def, e1, fg, fy, tok, DC_of hcall, hjd, endK_ret]
  unfold pairQ back
  rw [if_neg (by simp; omega)]
  refine ⟨rfl, by simp only; omega, by simp only; omega, by simp, (SubX.refl _ _ _ _ _ _).set (by omega) _, set_ne hD.i d4, set_ne hD.k d7, ?_, ?_, ?_⟩
  ·obtain ⟨cs, r1, r2, r3⟩ := hD.b1
   exact ⟨cs, set_ne r1 d9, r2, fun q hq => by
    obtain ⟨b, s, y1, y2, y3⟩ := r3 q hq
    exact ⟨b, s, y1, y2, set_ne y3 y2⟩⟩
  ·obtain ⟨cs, r1, r2, r3⟩ := hD.b2
   exact ⟨cs, set_ne r1 d10, r2, fun q hq => by
    obtain ⟨b, s, y1, y2, y3⟩ := r3 q hq
    exact ⟨b, s, y1, y2, set_ne y3 y2⟩⟩
  ·simp only [cntV]
   exact set_self hD.o
 | succ m ih =>
  intro h im c hm him hs hlen hD hc0 hc1
  refine hE.fnC (body := rb189) rfl ?_
  unfold rb189
  have hF := hfix h hs hlen
  obtain ⟨vr, fg⟩ := hF.g
  have e1 := hD.i
  obtain ⟨g, hg⟩ : ∃ g, g = im.length := ⟨_, rfl⟩
  rw [← hg] at e1 hm him ⊢
  have hgn : g < gens := by omega
  have hgne : ¬ g = gens := by omega
  have hgne' : ¬ (g : Int) = gens := by omega
  have fa := hF.a
  simp [rd_def, e1, fg, hgne, hgne', fa]
  have hcv : cntV n (permL n) rels (m + 1) im = cntI n (permL n) rels m im (permL n).length := rfl
  rw [hcv]
  refine DW_loop (fun kk fr st => ∃ (i : Nat) (h' : List O) (f' gl : Nat), i + kk = (permL n).length ∧ st = ⟨h', f'⟩ ∧ base ≤ f' ∧ f' ≤ h.length ∧ h.length ≤ h'.length ∧ SubX pI pK B1 B2 pO h h' ∧ DynI h' pI pK B1 B2 pO n gens gl (c + cntI n (permL n) rels m im i) im ∧
   get fr 0 = .pointer (some ⟨pI, 0, none⟩) ∧ get fr 4 = .pointer (some ⟨pK, 0, none⟩) ∧ get fr 5 = .pointer (some ⟨pR, 0, none⟩) ∧ get fr 6 = .pointer (some ⟨pN, 0, none⟩) ∧ get fr 7 = .pointer (some ⟨pV, 0, none⟩) ∧ get fr 9 = .int .i64 g ∧ get fr 22 = .slice aa (permL n).length (permL n).length ∧ get fr 23 = .int .i64 (permL n).length ∧ get fr 24 = .int .i64 i) ?_ (k := (permL n).length) ?_
  ·rintro kk fr st ⟨i, h', f', gl, hik, rfl, hf1, hf2, hlen', hX, hD', g0, g4, g5, g6, g7, g9, g22, g23, g24⟩
   have hX' : SubX pI pK B1 B2 pO hV h' := hs.trans hX
   have i1 := hD'.i
   have i2 := hD'.k
   obtain ⟨c1, x1, x2, x3⟩ := hD'.b1
   obtain ⟨c2, y1, y2, y3⟩ := hD'.b2
   by_cases hi : i < (permL n).length
   ·have hw : IntKind.i64.wrap ((i : Int) + 1) = (i : Int) + 1 := by
     rw [w64_id]
     ·omega
     ·have := visL_le n n []
      have h1 : n ^ n ≤ 6 ^ n := Nat.pow_le_pow_left hn.2 n
      have h2 : 6 ^ n ≤ 6 ^ 6 := Nat.pow_le_pow_right (by omega) hn.2
      have h3 : (permL n).length ≤ n ^ n := this
      omega
    obtain ⟨b, b', rfl, r1, r2, r3⟩ := (hfix h' hX' (by omega)).rows i hi
    obtain ⟨f, hf⟩ : ∃ f, f = nthR (permL n) i := ⟨_, rfl⟩
    have hfp : PermL n f := by rw [hf]; exact hPerm i hi
    rw [← hf] at r3
    have hbB : ∀ (q : Nat) (cs cs' : List Value) (s s' : Option Nat) (e : TypeId), h'[q]? = some (.cells cs 3 s) → ∀ p, h'[p]? = some (.cells cs' e s') → e ≠ 3 → q ≠ p := fun q cs cs' s s' e hq p hp hne hqp => by
     subst hqp; rw [hp] at hq; simp at hq; exact hne hq.2.1
    have n1 : b' ≠ B1 := hbB _ _ _ _ _ _ r3 _ x1 (by decide)
    have n2 : b' ≠ B2 := hbB _ _ _ _ _ _ r3 _ y1 (by decide)
    have n3 : b' ≠ pI := hbB _ _ _ _ _ _ r3 _ i1 (by decide)
    have n4 : b' ≠ pK := hbB _ _ _ _ _ _ r3 _ i2 (by decide)
    have sl1 := slice_pre (gl := gl) (c := gens) (g := g) x1 (by omega)
    have lB1 := (List.getElem?_eq_some_iff.1 x1).1
    have lB2 := (List.getElem?_eq_some_iff.1 y1).1
    have lpI := (List.getElem?_eq_some_iff.1 i1).1
    have lpK := (List.getElem?_eq_some_iff.1 i2).1
    have lb' := (List.getElem?_eq_some_iff.1 r3).1
    have lpO := (List.getElem?_eq_some_iff.1 hD'.o).1
    obtain ⟨H1, hH1⟩ : ∃ H1, H1 = h' ++ [O.cells [.slice (some ⟨b', 0, none⟩) n n] 34 (some 0)] := ⟨_, rfl⟩
    have l1 : H1.length = h'.length + 1 := by rw [hH1]; simp
    have K1 : ∀ (b : Nat) (o : O), h'[b]? = some o → H1[b]? = some o := fun b o hb => by rw [hH1]; exact app_of hb _
    have hx1 : rdN H1 h'.length 0 1 = some [.slice (some ⟨b', 0, none⟩) n n] := by rw [hH1]; simp [rdN_at0]
    have happ1 := append_fit (el := 34) (bytes := 24) (k := g) (c := gens) (fl := f') (K1 _ _ x1) (by omega) (by omega) (by rfl) hx1
    obtain ⟨H2, hH2⟩ : ∃ H2, H2 = H1.set B1 (.cells (c1.set g (.slice (some ⟨b', 0, none⟩) n n)) 34 (some 0)) := ⟨_, rfl⟩
    rw [← hH2] at happ1
    have l2 : H2.length = h'.length + 1 := by rw [hH2, List.length_set, l1]
    have K2 : ∀ (b : Nat) (o : O), h'[b]? = some o → b ≠ B1 → H2[b]? = some o := fun b o hb hn => by rw [hH2]; exact set_ne (K1 _ _ hb) hn
    have r3' := K2 _ _ r3 n1
    have hInt : Ints H2 (.slice (some ⟨b', 0, none⟩) n n) f := by
     refine ⟨_, b', 0, n, by rw [hfp.len], fun _ => rfl, fun j hj => by rw [rd_def, r3', Nat.zero_add]; exact intsC_get hj, fun j => ?_, by rw [hfp.len]; omega⟩
     by_cases hj : j < f.length
     ·have := hfp.rng j hj
      constructor <;> omega
     ·rw [nth_ge (by omega)]; constructor <;> omega
    have hinv := inverse_ hE hInt (by rw [hfp.len]; exact hfp.rng) (by rw [hfp.len]; omega)
    rw [hfp.len] at hinv
    obtain ⟨H3, hH3⟩ : ∃ H3, H3 = H2 ++ [O.cells (intsC (invL f)) 3 (some 0)] := ⟨_, rfl⟩
    rw [← hH3] at hinv
    have l3 : H3.length = H2.length + 1 := by rw [hH3]; simp
    obtain ⟨H4, hH4⟩ : ∃ H4, H4 = H3 ++ [O.cells [.slice (some ⟨H2.length, 0, none⟩) n n] 34 (some 0)] := ⟨_, rfl⟩
    have l4 : H4.length = H3.length + 1 := by rw [hH4]; simp
    have K4 : ∀ (b : Nat) (o : O), h'[b]? = some o → b ≠ B1 → H4[b]? = some o := fun b o hb hn => by rw [hH4, hH3]; exact app_of (app_of (K2 _ _ hb hn) _) _
    have hx4 : rdN H4 H3.length 0 1 = some [.slice (some ⟨H2.length, 0, none⟩) n n] := by rw [hH4]; simp [rdN_at0]
    have happ2 := append_fit (el := 34) (bytes := 24) (k := g) (c := gens) (fl := min f' B1) (K4 _ _ y1 (Ne.symm d8)) (by omega) (by omega) (by rfl) hx4
    obtain ⟨H5, hH5⟩ : ∃ H5, H5 = H4.set B2 (.cells (c2.set g (.slice (some ⟨H2.length, 0, none⟩) n n)) 34 (some 0)) := ⟨_, rfl⟩
    rw [← hH5] at happ2
    have K5 : ∀ (b : Nat) (o : O), h'[b]? = some o → b ≠ B1 → b ≠ B2 → H5[b]? = some o := fun b o hb hn hn2 => by rw [hH5]; exact set_ne (K4 _ _ hb hn) hn2
    have j1 := K5 _ _ i1 d2 d3
    have j2 := K5 _ _ i2 d5 d6
    have i2' := K2 _ _ i2 d5
    have sl2 := slice_pre (gl := gl) (c := gens) (g := g) (K2 _ _ y1 (Ne.symm d8)) (by omega)
    obtain ⟨H6, hH6⟩ : ∃ H6, H6 = H5.set pI (.cells [.slice (some ⟨B1, 0, none⟩) (g + 1) gens] 48 (some 0)) := ⟨_, rfl⟩
    have j2' : H6[pK]? = some (.cells [.slice (some ⟨B2, 0, none⟩) gl gens] 48 (some 0)) := by rw [hH6]; exact set_ne j2 (Ne.symm d1)
    obtain ⟨H7, hH7⟩ : ∃ H7, H7 = H6.set pK (.cells [.slice (some ⟨B2, 0, none⟩) (g + 1) gens] 48 (some 0)) := ⟨_, rfl⟩
    have l7 : H7.length = h'.length + 3 := by rw [hH7, List.length_set, hH6, List.length_set, hH5, List.length_set]; omega
    have K7 : ∀ (b : Nat) (o : O), h'[b]? = some o → b ≠ pI → b ≠ pK → b ≠ B1 → b ≠ B2 → H7[b]? = some o := fun b o hb m1 m2 m3 m4 => by rw [hH7, hH6]; exact set_ne (set_ne (K5 _ _ hb m3 m4) m1) m2
    have hX7 : SubX pI pK B1 B2 pO h H7 := hX.trans fun b o hb m1 m2 m3 m4 _ => K7 b o hb m1 m2 m3 m4
    have hF7 := hfix H7 (hs.trans hX7) (by omega)
    have q1 : H7[pI]? = some (.cells [.slice (some ⟨B1, 0, none⟩) (g + 1) gens] 48 (some 0)) := by rw [hH7, hH6]; exact set_ne (set_self j1) d1
    have q2 : H7[pK]? = some (.cells [.slice (some ⟨B2, 0, none⟩) (g + 1) gens] 48 (some 0)) := by rw [hH7]; exact set_self j2'
    have q3 : H7[B1]? = some (.cells (c1.set g (.slice (some ⟨b', 0, none⟩) n n)) 34 (some 0)) := by
     rw [hH7, hH6, hH5, hH4, hH3]
     refine set_ne (set_ne (set_ne (app_of (app_of ?_ _) _) d8) (Ne.symm d2)) (Ne.symm d5)
     rw [hH2]; exact set_self (K1 _ _ x1)
    have q4 : H7[B2]? = some (.cells (c2.set g (.slice (some ⟨H2.length, 0, none⟩) n n)) 34 (some 0)) := by
     rw [hH7, hH6]
     refine set_ne (set_ne ?_ (Ne.symm d3)) (Ne.symm d6)
     rw [hH5]; exact set_self (K4 _ _ y1 (Ne.symm d8))
    have q5 : H7[H2.length]? = some (O.cells (intsC (invL f)) 3 (some 0)) := by
     rw [hH7, hH6, hH5, hH4]
     refine set_ne (set_ne (set_ne (app_of ?_ _) (by omega)) (by omega)) (by omega)
     rw [hH3, app_at0]; rfl
    have hkint : ∀ b' cs' s', h'[b']? = some (.cells cs' 3 (some s')) → b' ≠ pO → H7[b']? = some (.cells cs' 3 (some s')) := fun p cs' s' hp _ => K7 _ _ hp (hbB _ _ _ _ _ _ hp _ i1 (by decide)) (hbB _ _ _ _ _ _ hp _ i2 (by decide)) (hbB _ _ _ _ _ _ hp _ x1 (by decide)) (hbB _ _ _ _ _ _ hp _ y1 (by decide))
    have hiA : (invA im).length = g := by rw [invA_length]; exact hg.symm
    have R1 : RowsB H7 B1 gens n pO (im ++ [f]) := RowsB.add x1 x2 x3 (by omega) (by rw [← hg]; exact q3) hkint r2 (hkint _ _ _ r3 r2)
    have R2 : RowsB H7 B2 gens n pO (invA im ++ [invL f]) := RowsB.add y1 y2 y3 (by omega) (by rw [hiA]; exact q4) hkint (by omega) q5
    rw [← invA_snoc] at R2
    have hlen1 : (im ++ [f]).length = g + 1 := by simp; omega
    have hD7 : DynI H7 pI pK B1 B2 pO n gens (im ++ [f]).length (c + cntI n (permL n) rels m im i) (im ++ [f]) := ⟨by rw [hlen1]; exact q1, by rw [hlen1]; exact q2, R1, R2, K7 _ _ hD'.o (Ne.symm d4) (Ne.symm d7) (Ne.symm d9) (Ne.symm d10)⟩
    have him7 : ∀ q, q < (im ++ [f]).length → PermL n (nthR (im ++ [f]) q) := fun q hq => by
     rw [nthR_snoc]
     by_cases e : q < im.length
     ·rw [if_pos e]; exact him q (by omega)
     ·rw [if_neg e, if_pos (by omega)]; exact hfp
    have himI : ∀ q, q < (invA (im ++ [f])).length → PermL n (nthR (invA (im ++ [f])) q) := fun q hq => by
     rw [invA_length] at hq
     rw [invA_at hq]
     exact (him7 q hq).inv
    have hM1 := R1.mat him7 ⟨by omega, by omega⟩
    have hM2 := R2.mat himI ⟨by rw [invA_length]; omega, by omega⟩
    rw [hlen1] at hM1
    rw [invA_length, hlen1] at hM2
    have hAsk : AskI H7 pI pK pN n (im ++ [f]) (invA (im ++ [f])) := ⟨⟨_, q1, hM1⟩, ⟨_, q2, hM2⟩, hF7.n_, fun k hk => ⟨(him7 k hk).len, (him7 k hk).rng⟩, fun k hk => ⟨(himI k hk).len, (himI k hk).rng⟩, invA_length _, by omega, by omega⟩
    obtain ⟨Rb, rv, f1, f2, f3⟩ := hF7.r
    obtain ⟨vr2, f4, f5⟩ := f3 (g + 1) (by omega)
    have hLet : ∀ i, i < (readyL rels (g + 1)).length → LetOk (im ++ [f]).length (nthR (readyL rels (g + 1)) i) := fun j hj => by
     obtain ⟨m1, m2⟩ := List.mem_filter.1 (show nthR (readyL rels (g + 1)) j ∈ rels.filter (fun r => lastW r == g + 1) from nthR_mem hj)
     have hlw : lastW (nthR (readyL rels (g + 1)) j) = g + 1 := by simpa using m2
     have h := hlet _ m1
     rw [hlw] at h
     rw [hlen1]
     exact h
    have hrl : (readyL rels (g + 1)).length < 1000000 := by
     have : (readyL rels (g + 1)).length ≤ rels.length := List.length_filter_le _ _
     omega
    have hct := containsF_ hE hAsk f5 hLet hrl
    have hgood : (∀ i, i < (readyL rels (g + 1)).length → TrivL (im ++ [f]) (invA (im ++ [f])) (nthR (readyL rels (g + 1)) i) n) ↔ GoodA n rels (im ++ [f]) := by unfold GoodA; rw [hlen1]; exact Iff.rfl
    have hwg : IntKind.i64.wrap ((g : Int) + 1) = (g : Int) + 1 := by rw [w64_id] <;> omega
    simp only [askV] at hct
    have hg1 : (g : Int) + 1 < (gens : Int) + 1 := by omega
    have hg0 : (0 : Int) ≤ (g : Int) + 1 := by omega
    have hgt : ((g : Int) + 1).toNat = g + 1 := by omega
    have hcI : cntI n (permL n) rels m im (i + 1) = cntI n (permL n) rels m im i + (if GoodA n rels (im ++ [f]) then cntV n (permL n) rels m (im ++ [f]) else 0) := by rw [hf]; rfl
    by_cases hG : GoodA n rels (im ++ [f])
    ·rw [decide_eq_true (hgood.2 hG)] at hct
     have hfv := hF7.v
     simp only [visV2] at hfv
     simp [g0, g4, g5, g6, g7, g9, g22, g23, g24, hi, rd_def, r1, i1, sl1, ← hH1, happ1, i2', sl2, DC_of hinv, ← hH4, happ2, bit, wrN_def, j1, ← hH6, j2', ← hH7, f1, f2, f4, hwg, hg1, hg0, hgt, DC_of hct, hfv, -List.length_append]
     have hvle := cntI_le n (permL n) rels m im i
     have hmul : (i + 1) * (permL n).length ^ m ≤ (permL n).length * (permL n).length ^ m := Nat.mul_le_mul_right _ (by omega)
     rw [Nat.succ_mul] at hmul
     rw [Nat.pow_succ, Nat.mul_comm ((permL n).length ^ m)] at hc1
     refine ⟨Ne.symm d5, d8, (ih (h := H7) (im := im ++ [f]) (c := c + cntI n (permL n) rels m im i) (by rw [hlen1]; omega) him7 (hs.trans hX7) (by omega) hD7 (by omega) (by omega)).imp ?_⟩
     rintro o ⟨h8, f8⟩ ⟨rfl, p1, p2, p3, p4, p5⟩
     simp only at p1 p2 p3 p4 p5
     have hj8 : ∀ F, joined ⟨H7, F⟩ ⟨h8, f8⟩ = ⟨h8, min F f8⟩ := fun F => by simp only [joined]; rw [if_pos (by omega)]
     simp [hj8, g0, g4, g5, g6, g7, g9, g22, g23, g24, hw]
     rw [hlen1] at p5
     refine ⟨kk - 1, by omega, i + 1, by omega, h8, _, ⟨rfl, rfl⟩, by omega, by omega, by omega, hX7.trans p4, ⟨g + 1, p5.i, p5.k, p5.b1.less, ?_, ?_⟩, by omega⟩
     ·have := p5.b2
      rw [invA_snoc] at this
      exact this.less
     ·rw [hcI, if_pos hG]
      have := p5.o
      rw [show (c + ((cntI n (permL n) rels m im i + cntV n (permL n) rels m (im ++ [f]) : Nat) : Int)) = c + (cntI n (permL n) rels m im i : Int) + (cntV n (permL n) rels m (im ++ [f]) : Int) by omega]
      exact this
    ·rw [decide_eq_false (fun h => hG (hgood.1 h))] at hct
     simp [g0, g4, g5, g6, g7, g9, g22, g23, g24, hi, rd_def, r1, i1, sl1, ← hH1, happ1, i2', sl2, DC_of hinv, ← hH4, happ2, bit, wrN_def, j1, ← hH6, j2', ← hH7, f1, f2, f4, hwg, hg1, hg0, hgt, DC_of hct, hw, -List.length_append]
     refine ⟨Ne.symm d5, d8, kk - 1, by omega, i + 1, by omega, H7, _, ⟨rfl, rfl⟩, by omega, by omega, by omega, hX7, ⟨g + 1, q1, q2, R1.less, ?_, ?_⟩, by omega⟩
     ·rw [invA_snoc] at R2
      exact R2.less
     ·rw [hcI, if_neg hG]
      exact hD7.o
   ·have hin : i = (permL n).length := by omega
    subst hin
    have sl1 := slice_pre (gl := gl) (c := gens) (g := g) x1 (by omega)
    have sl2 := slice_pre (gl := gl) (c := gens) (g := g) y1 (by omega)
    have i2' := fun o => set_ne (x := o) i2 (Ne.symm d1)
    simp [g0, g4, g5, g6, g7, g9, g22, g23, g24, rd_def, i1, i2, sl1, sl2, bit, wrN_def, i2', d1, Ne.symm d1, d2, d3, d5, d6, Ne.symm d2, Ne.symm d3, Ne.symm d5, Ne.symm d6, endK_ret]
    unfold pairQ back
    rw [if_neg (by simp; omega)]
    have lpI := (List.getElem?_eq_some_iff.1 i1).1
    have hkint : ∀ (b' : Nat) cs' s', h'[b']? = some (O.cells cs' 3 (some s')) → b' ≠ pI ∧ b' ≠ pK := fun p cs' s' hp => by
     constructor
     ·intro e; subst e; rw [hp] at i1; simp at i1
     ·intro e; subst e; rw [hp] at i2; simp at i2
    refine ⟨rfl, by simp only; omega, by simp only; omega, by simp; exact hlen', (hX.set (by omega) _).set (by omega) _, set_ne (set_self i1) d1, set_self (set_ne i2 (Ne.symm d1)), hD'.b1.keep (fun cs e => set_ne (set_ne e (Ne.symm d2)) (Ne.symm d5)) (fun p cs' s' hp _ => set_ne (set_ne hp (hkint _ _ _ hp).1) (hkint _ _ _ hp).2), hD'.b2.keep (fun cs e => set_ne (set_ne e (Ne.symm d3)) (Ne.symm d6)) (fun p cs' s' hp _ => set_ne (set_ne hp (hkint _ _ _ hp).1) (hkint _ _ _ hp).2), set_ne (set_ne hD'.o (Ne.symm d4)) (Ne.symm d7)⟩
  ·exact ⟨0, h, h.length, g, by omega, rfl, by omega, Nat.le_refl _, Nat.le_refl _, SubX.refl _ _ _ _ _ _, by simpa [cntI, sumNat, ← hg] using hD, by simp⟩
end Go.Proofs.Ytjlkndkedknocaa
namespace Go.Ai
theorem readyL_snoc (R : List (List Int)) (r : List Int) (j : Nat) : readyL (R ++ [r]) j = if lastW r = j then readyL R j ++ [r] else readyL R j := by
 unfold readyL
 rw [List.filter_append]
 by_cases h : lastW r = j
 ·rw [if_pos h]; simp [h]
 ·rw [if_neg h]; simp [h]
theorem readyL_le (R : List (List Int)) (j : Nat) : (readyL R j).length ≤ R.length := List.length_filter_le _ _
theorem lastW_take {w : List Int} {i : Nat} (h : i < w.length) : lastW (w.take (i + 1)) = max (lastW (w.take i)) (nth w i).natAbs := by
 unfold lastW
 rw [List.take_add_one, List.getElem?_eq_getElem h, List.foldl_append, nth_eq h]
 rfl
end Go.Ai
namespace Go.Proofs.Ytjlkndkedknocaa
open Go Go.Ai
attribute [local instance] Classical.propDecidable
def ReadyS (hb h : List O) (lo : Nat) (v : Value) (R : List (List Int)) : Prop :=
 ∃ ws, OwnS h lo v R.length ws 34 1 ∧ ∀ q, q < R.length → ∃ w, ws[q]? = some w ∧ Ints hb w (nthR R q)
theorem ReadyS.mat {hb h : List O} {lo : Nat} {v : Value} {R : List (List Int)} (k : ReadyS hb h lo v R) (hs : ∀ w xs, Ints hb w xs → Ints h w xs) (hl : R.length < 2 ^ 62) : Mat h v R := by
 obtain ⟨ws, ⟨h1, h2⟩, h3⟩ := k
 rcases h2 with ⟨rfl, h0⟩ | ⟨b, s, rfl, hb, hc, _⟩
 ·have : R = [] := List.length_eq_zero_iff.1 h0
  subst this
  exact ⟨none, 0, 0, 0, fun _ => undef, rfl, fun h => absurd h (by simp), fun i hi => absurd hi (by simp), by simp⟩
 ·refine ⟨_, b, 0, R.length, fun q => (ws[q]?).getD undef, rfl, fun _ => rfl, fun q hq => ?_, hl⟩
  obtain ⟨w, r1, r2⟩ := h3 q hq
  exact ⟨by rw [rd_def, hc, Nat.zero_add]; simp [r1], by simp only [r1, Option.getD_some]; exact hs _ _ r2⟩
theorem ReadyS.keep {hb h h' : List O} {lo : Nat} {v : Value} {R : List (List Int)} (k : ReadyS hb h lo v R) (hk : ∀ b n c, v = .slice (some ⟨b, 0, none⟩) n c → lo ≤ b → ∀ o, h[b]? = some o → h'[b]? = some o) : ReadyS hb h' lo v R := by
 obtain ⟨ws, h1, h3⟩ := k
 refine ⟨ws, h1.keep fun b s e1 e2 => ?_, h3⟩
 rcases h1.2 with ⟨z1, _⟩ | ⟨b2, s2, z1, z2, z3, _⟩
 ·rw [z1] at e1; cases e1
 ·have e1' := e1
  rw [z1] at e1
  simp only [Value.slice.injEq, Option.some.injEq, Addr.mk.injEq] at e1
  exact hk b _ _ e1' (by omega) _ e2
structure RdI (hb h : List O) (lo Rb gens : Nat) (R : List (List Int)) (rv : List Value) : Prop where
 at_ : h[Rb]? = some (.cells rv 48 (some 0))
 len : rv.length = gens + 1
 lt : Rb < lo
 lo_ : lo ≤ h.length
 each : ∀ j, j < gens + 1 → ∃ v, rv[j]? = some v ∧ ReadyS hb h lo v (readyL R j)
 apart : ∀ (j j' b n c n' c' : Nat), j ≠ j' → rv[j]? = some (Value.slice (some ⟨b, 0, none⟩) n c) → rv[j']? = some (Value.slice (some ⟨b, 0, none⟩) n' c') → False
theorem ReadyS.blk {hb h : List O} {lo : Nat} {v : Value} {R : List (List Int)} (k : ReadyS hb h lo v R) : (v = .slice none 0 0 ∧ R = []) ∨ ∃ b, v = .slice (some ⟨b, 0, none⟩) R.length R.length ∧ lo ≤ b ∧ b < h.length := by
 obtain ⟨ws, ⟨h1, h2⟩, h3⟩ := k
 rcases h2 with ⟨rfl, h0⟩ | ⟨b, s, rfl, hb, hc, _⟩
 ·exact .inl ⟨rfl, List.length_eq_zero_iff.1 h0⟩
 ·exact .inr ⟨b, rfl, hb, (List.getElem?_eq_some_iff.1 hc).1⟩
theorem RdI.add {hb h : List O} {lo Rb gens fl : Nat} {R : List (List Int)} {rv : List Value} {r : List Int} {w : Value} (hI : RdI hb h lo Rb gens R rv) (hw : Ints hb w r) (hw1 : one1 w = true) (hl : lastW r < gens + 1) (hR : R.length ≤ 100000) :
  ∃ v, rv[lastW r]? = some v ∧ (v = .slice none 0 0 ∨ ∃ b n, v = .slice (some ⟨b, 0, none⟩) n n ∧ lo ≤ b) ∧ ∃ b' n' H4 f4, appendV 34 1 24 v (.slice (some ⟨h.length, 0, none⟩) 1 1) ⟨h ++ [.cells [w] 34 (some 0)], fl⟩ = some (.slice (some ⟨b', 0, none⟩) n' n', ⟨H4, f4⟩) ∧ min fl lo ≤ f4 ∧ f4 ≤ fl ∧
   (∀ (b : Nat) (o : O), b < lo → h[b]? = some o → H4[b]? = some o) ∧ h.length ≤ H4.length ∧
   RdI hb (H4.set Rb (.cells (rv.set (lastW r) (.slice (some ⟨b', 0, none⟩) n' n')) 48 (some 0))) lo Rb gens (R ++ [r]) (rv.set (lastW r) (.slice (some ⟨b', 0, none⟩) n' n')) := by
 obtain ⟨v, hv, hS⟩ := hI.each _ hl
 have hblk := hS.blk
 have hS' := hS
 obtain ⟨ws, hown0, hrows⟩ := hS'
 have hread : readSlice (h ++ [.cells [w] 34 (some 0)]) 1 1 (some ⟨h.length, 0, none⟩) = some [w] := by simp [readSlice, rdN_at0]
 have hrl := readyL_le R (lastW r)
 have hlo := hI.lo_
 obtain ⟨b', H4, f4, happ, hb', hown, hf1, hf2, hL4, K4⟩ := append_S (fl := fl) (c := 1) (bytes := 24) (hown0.ext (Ext.snoc h [.cells [w] 34 (some 0)])) hread (by simp) (by simp [hw1]) (by simp; omega) (by simp only [roomMax]; omega) (by omega)
 have hbase : ∀ (b : Nat) (o : O), (∀ n c, v ≠ .slice (some ⟨b, 0, none⟩) n c) → h[b]? = some o → H4[b]? = some o := fun b o hn hb => K4 b o (app_of hb _) hn
 have hlow : ∀ b, b < lo → ∀ n c, v ≠ .slice (some ⟨b, 0, none⟩) n c := fun b hb n c e => by
  rcases hblk with ⟨z, _⟩ | ⟨b2, z, z2, _⟩
  ·rw [z] at e; cases e
  ·rw [z] at e
   simp only [Value.slice.injEq, Option.some.injEq, Addr.mk.injEq] at e
   omega
 have hRb := hI.lt
 have hb'' : h.length + 1 ≤ b' := by simpa using hb'
 have hL4' : h.length + 1 ≤ H4.length := by simpa using hL4
 refine ⟨v, hv, ?_, b', _, H4, f4, happ, hf1, hf2, fun b o hb ho => hbase b o (hlow b hb) ho, by omega, ?_⟩
 ·rcases hblk with ⟨z, _⟩ | ⟨b2, z, z2, _⟩
  ·exact .inl z
  ·exact .inr ⟨b2, _, z, z2⟩
 refine ⟨set_self (hbase _ _ (hlow _ hRb) hI.at_), by simp [hI.len], hRb, by simp; omega, fun j hj => ?_, fun j j' b n c n' c' hne e1 e2 => ?_⟩
 ·rw [readyL_snoc]
  by_cases e : j = lastW r
  ·rw [e, if_pos rfl]
   refine ⟨_, List.getElem?_set_self (by rw [hI.len]; exact hl), ws ++ [w], ?_, fun q hq => ?_⟩
   ·have : OwnS H4 lo (.slice (some ⟨b', 0, none⟩) ((readyL R (lastW r)).length + 1) ((readyL R (lastW r)).length + 1)) (readyL R (lastW r) ++ [r]).length (ws ++ [w]) 34 1 := by simpa using hown
    exact this.keep fun b s z1 z2 => set_ne z2 (by simp at z1; omega)
   ·have hwl : ws.length = (readyL R (lastW r)).length := by have := hown0.1; omega
    simp at hq
    by_cases eq : q < (readyL R (lastW r)).length
    ·obtain ⟨w', r1, r2⟩ := hrows q eq
     refine ⟨w', by rw [List.getElem?_append_left (by omega)]; exact r1, ?_⟩
     rw [nthR_snoc, if_pos eq]; exact r2
    ·have eq2 : q = (readyL R (lastW r)).length := by omega
     refine ⟨w, by rw [List.getElem?_append_right (by omega), hwl, eq2]; simp, ?_⟩
     rw [nthR_snoc, if_neg eq, if_pos eq2]; exact hw
  ·rw [if_neg (Ne.symm e)]
   obtain ⟨v2, q1, q2⟩ := hI.each j hj
   refine ⟨v2, by rw [List.getElem?_set_ne (Ne.symm e)]; exact q1, q2.keep fun b n c z1 z2 o z3 => set_ne (hbase b o (fun n' c' z4 => ?_) z3) (by omega)⟩
   rw [z1] at q1
   rw [z4] at hv
   exact hI.apart j (lastW r) b n c n' c' e q1 hv
 ·have hnew : ∀ j b n c, j ≠ lastW r → rv[j]? = some (.slice (some ⟨b, 0, none⟩) n c) → b < h.length := fun j b n c hj hz => by
   have hjl := (List.getElem?_eq_some_iff.1 hz).1
   rw [hI.len] at hjl
   obtain ⟨v2, q1, q2⟩ := hI.each j hjl
   rw [hz] at q1
   obtain rfl := Option.some.inj q1
   rcases q2.blk with ⟨z, _⟩ | ⟨b2, z, _, z2⟩
   ·cases z
   ·simp only [Value.slice.injEq, Option.some.injEq, Addr.mk.injEq] at z
    omega
  by_cases ej : j = lastW r
  ·rw [ej, List.getElem?_set_self (by rw [hI.len]; exact hl)] at e1
   simp only [Option.some.injEq, Value.slice.injEq, Addr.mk.injEq] at e1
   rw [List.getElem?_set_ne (by omega)] at e2
   have := hnew j' b n' c' (by omega) e2
   omega
  ·rw [List.getElem?_set_ne (Ne.symm ej)] at e1
   by_cases ej' : j' = lastW r
   ·rw [ej', List.getElem?_set_self (by rw [hI.len]; exact hl)] at e2
    simp only [Option.some.injEq, Value.slice.injEq, Addr.mk.injEq] at e2
    have := hnew j b n c ej e1
    omega
   ·rw [List.getElem?_set_ne (Ne.symm ej')] at e2
    exact hI.apart j j' b n c n' c' hne e1 e2
end Go.Proofs.Ytjlkndkedknocaa
namespace Go.Ai
theorem DC.kept {E : Env} (hS : SumsKept E) {f : FuncId} {args : List Value} {st : St} {Q : Out → St → Prop} (h : DC E f args st Q) : DC E f args st fun o st' => Q o st' ∧ Kept st st' := by
 obtain ⟨o, st', ⟨n, h1⟩, h2⟩ := h
 exact ⟨o, st', ⟨n, h1⟩, h2, callKept_of hS (exec_kept hS n) _ _ _ _ _ h1⟩
theorem visL_perm {n : Nat} : ∀ (m : Nat) (f : List Int), f.length + m = n → InN n f → (∀ i j, i < j → j < f.length → nth f i ≠ nth f j) → ∀ g ∈ visL n m f, PermL n g := by
 intro m
 induction m with
 | zero =>
  intro f hl hi hd g hg
  simp only [visL, List.mem_singleton] at hg
  subst hg
  exact ⟨by omega, hi, fun i j h1 h2 => hd i j h1 (by omega)⟩
 | succ m ih =>
  intro f hl hi hd g hg
  simp only [visL, List.mem_flatMap, List.mem_range] at hg
  obtain ⟨x, hx, hg⟩ := hg
  split at hg
  ·simp at hg
  ·rename_i hnot
   have hs : ∀ i, nth (f ++ [(x : Int)]) i = if i < f.length then nth f i else if i = f.length then (x : Int) else 0 := fun i => by
    unfold nth
    by_cases h : i < f.length
    ·rw [if_pos h]; simp [List.getD_eq_getElem?_getD, List.getElem?_append_left h]
    ·rw [if_neg h, List.getD_eq_getElem?_getD, List.getElem?_append_right (by omega)]
     by_cases e : i = f.length
     ·rw [if_pos e, e]; simp
     ·rw [if_neg e, List.getElem?_eq_none (by simp; omega)]; rfl
   refine ih _ (by simp; omega) (fun i hi' => ?_) (fun i j h1 h2 => ?_) g hg
   ·rw [hs]
    simp at hi'
    by_cases h : i < f.length
    ·rw [if_pos h]; exact hi i h
    ·rw [if_neg h, if_pos (by omega)]; omega
   ·simp at h2
    rw [hs, hs, if_pos (by omega)]
    by_cases h : j < f.length
    ·rw [if_pos h]; exact hd i j h1 h
    ·rw [if_neg h, if_pos (by omega)]
     intro e
     exact hnot (e ▸ nth_mem (by omega))
theorem permL_perm {n q : Nat} (h : q < (permL n).length) : PermL n (nthR (permL n) q) :=
 visL_perm n [] (by simp) (fun i hi => by simp at hi) (fun i j _ h => by simp at h) _ (nthR_mem h)
theorem permL_le {n : Nat} (hn : n ≤ 6) : (permL n).length ≤ 46656 := by
 have h0 := visL_le n n []
 have h1 : n ^ n ≤ 6 ^ n := Nat.pow_le_pow_left hn n
 have h2 : 6 ^ n ≤ 6 ^ 6 := Nat.pow_le_pow_right (by omega) hn
 have h3 : (permL n).length ≤ n ^ n := h0
 omega
end Go.Ai
namespace Go.Proofs.Ytjlkndkedknocaa
open Go Go.Ai
attribute [local instance] Classical.propDecidable
variable {E : Env} (hE : OE E)
include hE
theorem round57 {h : List O} {k pO : Nat} {frL : Fr} {v : Value} {c : Int} (hk : h[k]? = some (.loop false 43 frL [39] (lcA 57 0) (lcB 57 0))) (g9 : get frL 9 = .pointer (some ⟨pO, 0, none⟩)) (hO : h[pO]? = some (.cells [.int .i64 c] 3 (some 0))) (hc : 0 ≤ c ∧ c ≤ 10000000000) :
  DR E (yB + k) [v] ⟨h, h.length⟩ (.ret (.bool true)) ⟨h.set pO (.cells [.int .i64 (c + 1)] 3 (some 0)), min pO k⟩ := by
 have n1 : k ≠ pO := fun e => by subst e; rw [hk] at hO; cases hO
 have lk := (List.getElem?_eq_some_iff.1 hk).1
 have lO := (List.getElem?_eq_some_iff.1 hO).1
 have hDC : DC E (yB + k) [v] ⟨h, h.length⟩ fun o st' => o = .ret (.bool true) ∧ st' = ⟨h.set pO (.cells [.int .i64 (c + 1)] 3 (some 0)), min pO k⟩ := by
  refine DC_yield (hE.Y k) hk rfl hE.c57_0a hE.c57_0b ?_
  unfold ra57_0
  simp [putAll]
  refine ⟨_, turn_eq hk, ?_⟩
  unfold rl57_0
  obtain ⟨H1, hH1⟩ : ∃ H, H = h.set k (O.loop (!false) 43 frL [39] (lcA 57 0) (lcB 57 0)) := ⟨_, rfl⟩
  have hO1 : H1[pO]? = some (.cells [.int .i64 c] 3 (some 0)) := by rw [hH1]; exact set_ne hO (Ne.symm n1)
  have hk1 : H1[k]? = some (O.loop (!false) 43 frL [39] (lcA 57 0) (lcB 57 0)) := by rw [hH1]; exact set_self hk
  have hw : IntKind.i64.wrap (c + 1) = c + 1 := by rw [w64_id] <;> omega
  rw [← hH1]
  simp [g9, rd_def, hO1, hw, wrN_def]
  have hk2 : (H1.set pO (.cells [.int .i64 (c + 1)] 3 (some 0)))[k]? = some (O.loop (!false) 43 frL [39] (lcA 57 0) (lcB 57 0)) := set_ne hk1 n1
  have ht := turn_eq (f := min h.length (min k pO)) hk2
  simp only [Bool.not_false, Bool.not_true] at ht
  rw [ht]
  have hm : min (min h.length (min k pO)) k = min pO k := by omega
  rw [hm]
  congr 2
  apply List.ext_getElem?
  intro i
  rw [hH1]
  simp only [List.getElem?_set, List.length_set]
  by_cases e1 : k = i
  ·subst e1
   simp [lk, Ne.symm n1, hk]
   have := (List.getElem?_eq_some_iff.1 hk).2
   exact this.symm
  ·simp [e1]
 obtain ⟨o, st', h1, rfl, rfl⟩ := hDC
 exact h1
end Go.Proofs.Ytjlkndkedknocaa
namespace Go.Proofs.Ytjlkndkedknocaa
open Go Go.Ai
attribute [local instance] Classical.propDecidable
theorem lastW_lt {w : List Int} {gens : Nat} (h : LetOk gens w) : lastW w < gens + 1 := by
 have key : ∀ i, i ≤ w.length → lastW (w.take i) ≤ gens := by
  intro i
  induction i with
  | zero => intro _; simp [lastW]
  | succ i ih =>
   intro hi
   have h1 := ih (by omega)
   have h2 := h i (by omega)
   rw [lastW_take (by omega)]
   omega
 have := key w.length (Nat.le_refl _)
 rw [List.take_length] at this
 omega
theorem RdI.nil {hb h : List O} {lo Rb gens : Nat} (h1 : h[Rb]? = some (.cells (List.replicate (gens + 1) (.slice none 0 0)) 48 (some 0))) (h2 : Rb < lo) (h3 : lo ≤ h.length) : RdI hb h lo Rb gens [] (List.replicate (gens + 1) (.slice none 0 0)) := by
 refine ⟨h1, by simp, h2, h3, fun j hj => ⟨.slice none 0 0, by rw [List.getElem?_replicate, if_pos hj], [], OwnS.nil _ _ _ _, fun q hq => by simp [readyL] at hq⟩, fun j j' b n c n' c' _ e _ => ?_⟩
 rw [List.getElem?_replicate] at e
 split at e
 ·cases e
 ·cases e
variable {E : Env} (hE : OE E)
include hE
theorem assign1_ (hKp : SumsKept E) {hB hK : List O} {k pO pN pG n gens : Nat} {vr : Value} {frL : Fr} {rels : List (List Int)} (hn : 1 ≤ n ∧ n ≤ 6) (hgens : gens ≤ 600) (hrels : rels.length ≤ 100000)
  (hlet : ∀ r ∈ rels, LetOk gens r) (hsB : Sub hB hK) (hBl : hB.length ≤ pO) (hM : Mat hB vr rels)
  (hk : hK[k]? = some (.loop false 43 frL [39] (lcA 57 0) (lcB 57 0))) (g9 : get frL 9 = .pointer (some ⟨pO, 0, none⟩))
  (hO : hK[pO]? = some (.cells [.int .i64 0] 3 (some 0))) (hN : hK[pN]? = some (.cells [.int .i64 n] 3 (some 0))) (hG : hK[pG]? = some (.cells [.int .i64 gens, vr] 81 (some 0)))
  (ho : pO < pN ∧ pO < pG ∧ pO < k) (hcnt : (permL n).length ^ gens ≤ 10000000000) :
  DC E 188 [tok k, .pointer (some ⟨pN, 0, none⟩), .pointer (some ⟨pG, 0, none⟩)] ⟨hK, hK.length⟩ fun o st' => (∃ v, o = .ret v) ∧ pO ≤ st'.fl ∧ (∀ (b : Nat) (o : O), hK[b]? = some o → b ≠ pO → st'.h[b]? = some o) ∧ AtB st'.h pO (.cells [.int .i64 (cntV n (permL n) rels gens [])] 3 (some 0)) := by
 refine hE.fnC (body := rb188) rfl ?_
 unfold rb188
 have lO := (List.getElem?_eq_some_iff.1 hO).1
 have lk := (List.getElem?_eq_some_iff.1 hk).1
 have lN := (List.getElem?_eq_some_iff.1 hN).1
 have lG := (List.getElem?_eq_some_iff.1 hG).1
 obtain ⟨h1, hh1⟩ : ∃ H, H = hK ++ [O.cells [tok k] 219 (some 0)] := ⟨_, rfl⟩
 have l1 : h1.length = hK.length + 1 := by rw [hh1]; simp
 have hN1 : h1[pN]? = some (.cells [.int .i64 n] 3 (some 0)) := by rw [hh1]; exact app_of hN _
 have htk : (tok k).cells = #[tok k] := rfl
 have htk1 : one1 (tok k) = true := rfl
 simp [htk, ← hh1, rd_def, hN1]
 refine (permutations_ hE hn).imp ?_
 rintro o ⟨h2, f2⟩ ⟨v, rfl, s2, hf2, hP⟩
 simp only at s2 hf2 hP
 have hjo : joined ⟨h1, hK.length⟩ ⟨h2, f2⟩ = ⟨h2, hK.length⟩ := joined_fl hf2
 obtain ⟨aa, rfl, hrows⟩ := hP.look
 have s12 : Sub hK h2 := fun b o hb => s2 _ _ (by rw [hh1]; exact app_of hb _)
 have l2 : h1.length ≤ h2.length := by
  have h0 : h1[hK.length]? = some (O.cells [tok k] 219 (some 0)) := by rw [hh1, app_at0]; rfl
  have := (List.getElem?_eq_some_iff.1 (s2 _ _ h0)).1
  omega
 have hG2 : ∀ l, (h2 ++ l)[pG]? = some (.cells [.int .i64 gens, vr] 81 (some 0)) := fun l => app_of (s12 _ _ hG) l
 have hwg : IntKind.i64.wrap ((gens : Int) + 1) = (gens : Int) + 1 := by rw [w64_id] <;> omega
 have e1 : ((gens : Int) + 1) * 24 ≤ 140737488355328 := by omega
 have e2 : (gens : Int) + 1 < 4611686018427387904 := by omega
 have e3 : (0 : Int) ≤ (gens : Int) + 1 := by omega
 have e4 : ((gens : Int) + 1).toNat = gens + 1 := by omega
 have hrep : rep (gens + 1) [Value.slice none 0 0] = List.replicate (gens + 1) (.slice none 0 0) := by simp [rep]
 obtain ⟨va, vb, vo, vc, vs, hvr, hva, hvs⟩ := hM.at
 subst hvr
 simp [hjo, bit, wrN_at0, set_at0, rd_def, hG2, hwg, e1, e2, e3, e4, hrep, wrN_at, set_at, List.append_assoc]
 obtain ⟨hQ, hhQ⟩ : ∃ H, H = h2 ++ [O.cells [.slice aa (permL n).length (permL n).length] 48 (some 0), O.cells (List.replicate (gens + 1) (.slice none 0 0)) 48 (some 0), O.cells [.slice (some ⟨h2.length + 1, 0, none⟩) (gens + 1) (gens + 1)] 129 (some 0)] := ⟨_, rfl⟩
 rw [← hhQ]
 have lQ : hQ.length = h2.length + 3 := by rw [hhQ]; simp
 have q0 : hQ[h2.length]? = some (O.cells [.slice aa (permL n).length (permL n).length] 48 (some 0)) := by rw [hhQ, app_at0]; rfl
 have q1 : hQ[h2.length + 1]? = some (O.cells (List.replicate (gens + 1) (.slice none 0 0)) 48 (some 0)) := by rw [hhQ, app_at]; rfl
 have q2 : hQ[h2.length + 2]? = some (O.cells [.slice (some ⟨h2.length + 1, 0, none⟩) (gens + 1) (gens + 1)] 129 (some 0)) := by rw [hhQ, app_at]; rfl
 have s2Q : Sub h2 hQ := by rw [hhQ]; exact (Sub.refl _).app _
 have sBQ : Sub hB hQ := fun b o hb => s2Q _ _ (s12 _ _ (hsB _ _ hb))
 have hlen : rels.length < 2 ^ 62 := by omega
 obtain ⟨Rb, hRb⟩ : ∃ Rb, Rb = h2.length + 1 := ⟨_, rfl⟩
 obtain ⟨pA, hpA⟩ : ∃ pA, pA = h2.length := ⟨_, rfl⟩
 obtain ⟨pR, hpR⟩ : ∃ pR, pR = h2.length + 2 := ⟨_, rfl⟩
 have hmn : min hK.length h2.length = hK.length := by omega
 rw [hmn, ← hRb, ← hpR, ← hpA]
 rw [← hRb] at q1 q2
 rw [← hpR] at q2
 rw [← hpA] at q0
 refine DW_loop (fun kk fr st => ∃ (i : Nat) (h : List O) (rv : List Value), i + kk = rels.length ∧ st = ⟨h, hK.length⟩ ∧ RdI hB h hQ.length Rb gens (rels.take i) rv ∧ (∀ (b : Nat) (o : O), b ≠ Rb → hQ[b]? = some o → h[b]? = some o) ∧
  get fr 0 = tok k ∧ get fr 1 = .pointer (some ⟨pN, 0, none⟩) ∧ get fr 2 = .pointer (some ⟨pG, 0, none⟩) ∧ get fr 3 = .pointer (some ⟨hK.length, 0, none⟩) ∧ get fr 4 = .pointer (some ⟨pA, 0, none⟩) ∧ get fr 5 = .pointer (some ⟨pR, 0, none⟩) ∧ get fr 21 = .slice va rels.length vc ∧ get fr 22 = .int .i64 rels.length ∧ get fr 23 = .int .i64 i) ?_ (k := rels.length) ?_
 ·rintro kk fr st ⟨i, h, rv, hik, rfl, hRd, hkeep, g0, g1, g2, g3, g4, g5, g21, g22, g23⟩
  have sBh : Sub hB h := fun b o hb => by
   have := (List.getElem?_eq_some_iff.1 hb).1
   exact hkeep _ _ (by omega) (sBQ _ _ hb)
  by_cases hi : i < rels.length
  ·have hwi : IntKind.i64.wrap ((i : Int) + 1) = (i : Int) + 1 := by rw [w64_id] <;> omega
   obtain rfl := hva (by omega)
   obtain ⟨r1, r2⟩ := hvs i hi
   obtain ⟨wa, wb, wo, wc, hwv, hwa, hwr⟩ := r2.at
   have hwl : (nthR rels i).length < 2 ^ 62 := by obtain ⟨_, _, _, _, _, _, _, _, h5⟩ := r2; exact h5
   have r1' := Ai.Sub.rdO sBh r1
   have hLet := hlet _ (nthR_mem hi)
   obtain ⟨w, hw⟩ : ∃ w, w = nthR rels i := ⟨_, rfl⟩
   rw [← hw] at hwv hwa hwr hwl hLet r2
   simp [g0, g1, g2, g3, g4, g5, g21, g22, g23, hi, rd_def, r1', hwv]
   refine DW_loop (fun kk' fr st => ∃ (j : Nat), j + kk' = w.length ∧ st = ⟨h, hK.length⟩ ∧
    get fr 0 = tok k ∧ get fr 1 = .pointer (some ⟨pN, 0, none⟩) ∧ get fr 2 = .pointer (some ⟨pG, 0, none⟩) ∧ get fr 3 = .pointer (some ⟨hK.length, 0, none⟩) ∧ get fr 4 = .pointer (some ⟨pA, 0, none⟩) ∧ get fr 5 = .pointer (some ⟨pR, 0, none⟩) ∧ get fr 21 = .slice (some ⟨vb, vo, none⟩) rels.length vc ∧ get fr 22 = .int .i64 rels.length ∧ get fr 23 = .int .i64 i ∧
    get fr 7 = .slice wa w.length wc ∧ get fr 8 = .int .i64 (lastW (w.take j)) ∧ get fr 27 = .slice wa w.length wc ∧ get fr 28 = .int .i64 w.length ∧ get fr 29 = .int .i64 j) ?_ (k := w.length) ?_
   ·clear g0 g1 g2 g3 g4 g5 g21 g22 g23
    rintro kk' fr st ⟨j, hjk, rfl, g0, g1, g2, g3, g4, g5, g21, g22, g23, g7, g8, g27, g28, g29⟩
    by_cases hj : j < w.length
    ·have hwj : IntKind.i64.wrap ((j : Int) + 1) = (j : Int) + 1 := by rw [w64_id] <;> omega
     obtain rfl := hwa (by omega)
     have hlt := hLet j hj
     have hr' := Ai.Sub.rdO sBh (hwr j hj)
     have hwn : IntKind.i64.wrap (-nth w j) = -nth w j := by rw [w64_id] <;> omega
     have hmx : maxminV true [Value.int .i64 (lastW (w.take j)), .int .i64 (nth w j), .int .i64 (-nth w j)] = some (.int .i64 (lastW (w.take (j + 1)))) := by
      rw [lastW_take hj]
      simp only [maxminV, maxmin2, if_true]
      congr 2
      split <;> split <;> omega
     simp [g0, g1, g2, g3, g4, g5, g21, g22, g23, g7, g8, g27, g28, g29, hj, rd_def, hr', hwn, hmx, hwj]
     exact ⟨kk' - 1, by omega, j + 1, by omega, rfl, by omega⟩
    ·have hjw : j = w.length := by omega
     subst hjw
     rw [List.take_length] at g8
     have hlw := lastW_lt hLet
     have q2h := hkeep _ _ (by omega) q2
     have r2v := r2
     rw [hwv] at r2v
     obtain ⟨v, a1, a2, b', n', H4, f4, a3, a4, a5, a6, a7, a8⟩ := RdI.add (fl := hK.length) hRd r2v (by rfl) hlw (by rw [List.length_take]; omega)
     have hRbh := hRd.at_
     have hle : (lastW w : Int) < (gens : Int) + 1 := by omega
     simp [g0, g1, g2, g3, g4, g5, g21, g22, g23, g7, g8, g27, g28, g29, rd_def, q2h, hlw, hle, hRbh, a1, a3]
     have hbv : ∀ x ∈ blk v, ¬ x = Rb ∧ ¬ x = pR := fun x hx => by
      rcases a2 with rfl | ⟨b, n1, rfl, hb1⟩
      ·simp [blk] at hx
      ·simp [blk] at hx
       omega
     refine ⟨⟨fun _ x hx => (hbv x hx).1, fun _ x hx => (hbv x hx).2, fun x hx => (hbv x hx).2⟩, ?_⟩
     have hRb4 := a6 Rb _ (by omega) hRbh
     obtain rfl : f4 = hK.length := by omega
     have hmR : min hK.length Rb = hK.length := by omega
     have hrvl := hRd.len
     have hlwr : lastW w + 1 ≤ rv.length := by omega
     have hlw' : lastW w ≤ gens := by omega
     simp [wrN_def, hRb4, hlw', hrvl, hmR, g0, g1, g2, g3, g4, g5, g21, g22, g23, hwi]
     have htake : rels.take (i + 1) = rels.take i ++ [w] := by rw [List.take_add_one, List.getElem?_eq_getElem hi, hw]; simp [nthR, hi]
     refine ⟨⟨fun h => absurd h (by decide), by decide, fun h => absurd h (by decide)⟩, kk - 1, by omega, i + 1, by omega, ⟨_, by rw [htake]; exact a8⟩, fun b o hb1 hb2 => set_ne (a6 b o ?_ (hkeep b o hb1 hb2)) hb1, by omega⟩
     exact (List.getElem?_eq_some_iff.1 hb2).1
   ·exact ⟨0, by omega, rfl, by simp [lastW, g0, g1, g2, g3, g4, g5, g21, g22, g23]⟩
  ·have hil : i = rels.length := by omega
   subst hil
   rw [List.take_length] at hRd
   have q0h := hkeep _ _ (by omega) q0
   have q2h := hkeep _ _ (by omega) q2
   have hGh := hkeep _ _ (by omega) (s2Q _ _ (s12 _ _ hG))
   have hNh := hkeep _ _ (by omega) (s2Q _ _ (s12 _ _ hN))
   have hOh := hkeep _ _ (by omega) (s2Q _ _ (s12 _ _ hO))
   have hkh := hkeep _ _ (by omega) (s2Q _ _ (s12 _ _ hk))
   have hYh := hkeep hK.length _ (by omega) (s2Q _ _ (s2 _ _ (show h1[hK.length]? = some (O.cells [tok k] 219 (some 0)) by rw [hh1, app_at0]; rfl)))
   have f1 : (gens : Int) * 24 ≤ 140737488355328 := by omega
   have f3 : (gens : Int) < 4611686018427387904 := by omega
   have hrep2 : rep gens [Value.slice none 0 0] = List.replicate gens (.slice none 0 0) := by simp [rep]
   have hGa : ∀ l, (h ++ l)[pG]? = _ := fun l => app_of hGh l
   have lh := hRd.lo_
   obtain ⟨vV, hvV⟩ : ∃ vV, vV = visV2 (h.length + 2) pG hK.length pA (h.length + 3) pR pN (h.length + 4) := ⟨_, rfl⟩
   have hvV' := hvV
   unfold visV2 at hvV
   have hb1 : one1 vV = true := by rw [hvV]; rfl
   have hb2 : vV.cells = #[vV] := by rw [hvV]; rfl
   simp [g0, g1, g2, g3, g4, g5, g21, g22, g23, rd_def, hGh, hGa, f1, f3, hrep2, wrN_at0, wrN_at, set_at, set_at0, List.append_assoc, ← hvV, hb1, hb2]
   refine ⟨⟨fun _ => by omega, fun _ => by omega⟩, ⟨fun _ => by omega, fun _ => by omega⟩, ?_⟩
   obtain ⟨hV, hhV⟩ : ∃ H, H = h ++ [O.cells (List.replicate gens (.slice none 0 0)) 34 (some 0), O.cells (List.replicate gens (.slice none 0 0)) 34 (some 0), O.cells [.slice (some ⟨h.length, 0, none⟩) 0 gens] 48 (some 0), O.cells [.slice (some ⟨h.length + 1, 0, none⟩) 0 gens] 48 (some 0), O.cells [vV] 25 (some 0)] := ⟨_, rfl⟩
   have lV : hV.length = h.length + 5 := by rw [hhV]; simp
   have hVa : ∀ (b : Nat) (o : O), h[b]? = some o → hV[b]? = some o := fun b o hb => by rw [hhV]; exact app_of hb _
   have v0 : hV[h.length]? = some (O.cells (List.replicate gens (.slice none 0 0)) 34 (some 0)) := by rw [hhV, app_at0]; rfl
   have v1 : hV[h.length + 1]? = some (O.cells (List.replicate gens (.slice none 0 0)) 34 (some 0)) := by rw [hhV, app_at]; rfl
   have v2 : hV[h.length + 2]? = some (O.cells [.slice (some ⟨h.length, 0, none⟩) 0 gens] 48 (some 0)) := by rw [hhV, app_at]; rfl
   have v3 : hV[h.length + 3]? = some (O.cells [.slice (some ⟨h.length + 1, 0, none⟩) 0 gens] 48 (some 0)) := by rw [hhV, app_at]; rfl
   have v4 : hV[h.length + 4]? = some (O.cells [vV] 25 (some 0)) := by rw [hhV, app_at]; rfl
   rw [← hhV]
   have hmn2 : min hK.length (h.length + 2) = hK.length := by omega
   rw [hmn2]
   have htgt : target vV [] = some (189, [.pointer (some ⟨h.length + 2, 0, none⟩), .pointer (some ⟨pG, 0, none⟩), .pointer (some ⟨hK.length, 0, none⟩), .pointer (some ⟨pA, 0, none⟩), .pointer (some ⟨h.length + 3, 0, none⟩), .pointer (some ⟨pR, 0, none⟩), .pointer (some ⟨pN, 0, none⟩), .pointer (some ⟨h.length + 4, 0, none⟩)]) := by rw [hvV]; rfl
   have hPl := permL_le hn.2
   have hle3 : ∀ r ∈ rels, LetOk (lastW r) r := fun r hr j hj => by
    have h1 := hlet r hr j hj
    have h2 := lastW_le (nth_mem hj)
    exact ⟨h1.1, by omega, by omega⟩
   have hfix : ∀ h', SubX (h.length + 2) (h.length + 3) h.length (h.length + 1) pO hV h' → hV.length ≤ h'.length → FixI E h' aa pG hK.length pA pR pN (h.length + 4) pO k n gens vV rels := fun h' hs hl => by
    have K : ∀ (b : Nat) (o : O), h[b]? = some o → b ≠ pO → h'[b]? = some o := fun b o hb hn => by
     have := (List.getElem?_eq_some_iff.1 hb).1
     exact hs b o (hVa _ _ hb) (by omega) (by omega) (by omega) (by omega) hn
    refine ⟨⟨_, K _ _ hGh (by omega)⟩, K _ _ hYh (by omega), K _ _ q0h (by omega), fun q hq => ?_, ⟨Rb, rv, K _ _ q2h (by omega), K _ _ hRd.at_ (by omega), fun j hj => ?_⟩, K _ _ hNh (by omega), hs _ _ v4 (by omega) (by omega) (by omega) (by omega) (by omega), fun v c hc1 hc2 => round57 hE (K _ _ hkh (by omega)) g9 hc1 hc2⟩
    ·obtain ⟨b, b', z1, z2, z3, z4, z5⟩ := hrows q hq
     refine ⟨b, b', z1, ?_, by omega, ?_⟩
     ·cases hb : h2[b]? with
      | none => rw [hb] at z3; simp [rdO] at z3
      | some o =>
       have := (List.getElem?_eq_some_iff.1 hb).1
       rw [K _ _ (hkeep _ _ (by omega) (s2Q _ _ hb)) (by omega), ← hb]
       exact z3
     ·have := (List.getElem?_eq_some_iff.1 z5).1
      exact K _ _ (hkeep _ _ (by omega) (s2Q _ _ z5)) (by omega)
    ·obtain ⟨v, z1, z2⟩ := hRd.each j hj
     refine ⟨v, z1, (z2.keep (h' := h') fun b n c _ hb o ho => K _ _ ho (by omega)).mat (fun w xs hx => ?_) ?_⟩
     ·exact hx.sub fun b o hb => K _ _ (sBh _ _ hb) (by have := (List.getElem?_eq_some_iff.1 hb).1; omega)
     ·have := readyL_le rels j
      omega
   have hD0 : DynI hV (h.length + 2) (h.length + 3) h.length (h.length + 1) pO n gens (([] : List (List Int)).length) 0 [] := ⟨v2, v3, ⟨_, v0, by simp, fun q hq => by simp at hq⟩, ⟨_, v1, by simp, fun q hq => by simp [invA] at hq⟩, hVa _ _ hOh⟩
   have hvis := visit2_ (hV := hV) hE hn hgens (fun q hq => permL_perm hq) hle3 (by omega) (hvV' ▸ hfix) (base := pO) ⟨by omega, by omega, by omega, by omega, by omega, by omega⟩ ⟨by omega, by omega, by omega, by omega, by omega, by omega⟩ (by omega) (by omega) (by omega) (by omega) (by omega) (by omega) (by omega) (by omega) (by omega) (by omega) (by omega)
    gens (im := []) (by simp) (fun q hq => by simp at hq) (SubX.refl _ _ _ _ _ _) (Nat.le_refl _) hD0 (by omega) (by simpa using (show ((permL n).length ^ gens : Nat) ≤ (10000000000 : Int) by omega))
   simp [htgt]
   refine (DC.kept hKp hvis).imp ?_
   rintro o ⟨h3, f3⟩ ⟨⟨rfl, w1, w2, w3, w4, w5⟩, w6⟩
   simp only at w1 w2 w3 w4 w5
   have hjo3 : joined ⟨hV, hK.length⟩ ⟨h3, f3⟩ = ⟨h3, min hK.length f3⟩ := by simp only [joined]; rw [if_pos w2]
   simp [hjo3, bit, endK_normal]
   unfold pairQ back
   have hw5 := w5.o
   simp only [Int.zero_add] at hw5
   split
   ·rename_i hc
    simp at hc
    have := w6.same pO (by simp only; omega) (by simp only; omega)
    simp only at this
    rw [hw5, hVa _ _ hOh] at this
    simp at this
    refine ⟨⟨_, rfl⟩, by simp only; omega, fun b o hb _ => hb, ?_⟩
    rw [this]
    exact hO
   ·exact ⟨⟨_, rfl⟩, by simp only; omega, fun b o hb hn => by
     have := (List.getElem?_eq_some_iff.1 hb).1
     exact w4 b o (hVa _ _ (hkeep _ _ (by omega) (s2Q _ _ (s12 _ _ hb)))) (by omega) (by omega) (by omega) (by omega) hn, hw5⟩
 ·refine ⟨0, hQ, _, by omega, rfl, RdI.nil q1 (by omega) (by omega), fun b o _ hb => hb, ?_⟩
  simp
end Go.Proofs.Ytjlkndkedknocaa
namespace Go.Proofs.Ytjlkndkedknocaa
open Go Go.Ai
attribute [local instance] Classical.propDecidable
def FewA (P g : Nat) : Prop := ∀ i, i < g → P ^ (i + 1) ≤ 2000000
noncomputable def genN (G : Dg) : Nat := arC G + G.L.toNat
noncomputable def cntD (G : Dg) (k : Nat) : Nat := cntV k (permL k) (relL G) (genN G) []
noncomputable def countA (n : Nat) (x : Nat → Nat → Int) (s : Nat → Int) (L k : Int) : Int × Int :=
 if kindD n x s L ≠ 0 then (0, kindD n x s L) else if ¬ (1 ≤ k ∧ k ≤ 6) then (0, 1) else if ¬ FewA (permL k.toNat).length (genN (dgOf n x s L)) then (0, 2) else (cntD (dgOf n x s L) k.toNat, 0)
variable {E : Env} (hE : OE E)
include hE
theorem assignments_ {h : List O} {gens n : Nat} {v : Value} (h1 : one1 v = true) :
  DR E 133 [.agg #[.int .i64 gens, v], .int .i64 n] ⟨h, h.length⟩ (.ret (.func (.func 188) #[] #[.pointer (some ⟨h.length + 1, 0, none⟩), .pointer (some ⟨h.length, 0, none⟩)])) ⟨h ++ [.cells [.int .i64 gens, v] 81 (some 0), .cells [.int .i64 n] 3 (some 0)], h.length⟩ := by
 refine hE.fn (body := rb133) rfl ?_
 unfold rb133
 have hs : (Out.ret (.func (.func 188) #[] #[.pointer (some ⟨h.length + 1, 0, none⟩), .pointer (some ⟨h.length, 0, none⟩)])).scalar = false := rfl
 simp [List.append_assoc, endK_ret, back, hs]
theorem countW_ (hKp : SumsKept E) {h0 : List O} {a : Option Addr} {n c : Nat} {x : Nat → Nat → Int} {s : Nat → Int} {L k : Int} (hx : CrossP h0 a n x s) :
  DR E 57 [dV a n c L, .int .i64 k] ⟨h0, h0.length⟩ (.ret (.tuple #[.int .i64 (countA n x s L k).1, .int .i64 (countA n x s L k).2])) ⟨h0, h0.length⟩ := by
 refine hE.fn (body := rb57) rfl ?_
 unfold rb57
 have hx1 : CrossP (h0 ++ [O.cells [.slice a n c, .int .i64 L] 24 (some 0)]) a n x s := hx.ext (Ext.snoc _ _)
 have h1 := check_ hE (c := c) (L := L) hx1
 simp [dV] at h1
 have hsc : ∀ y z : Int, (Out.ret (.tuple #[.int .i64 y, .int .i64 z])).scalar = true := fun _ _ => rfl
 by_cases hk : kindD n x s L = 0
 ·by_cases hk6 : 1 ≤ k ∧ k ≤ 6
  ·obtain ⟨m, rfl⟩ : ∃ m : Nat, k = m := ⟨k.toNat, by omega⟩
   have hm : 1 ≤ m ∧ m ≤ 6 := by omega
   have hS := (kind_zero hk).1
   have h2 := newLinkC_ hE (c := c) hx1 hk
   simp [dV] at h2
   have nl1 : ¬ ((m : Int) < 1) := by omega
   have ng6 : ¬ (6 < (m : Int)) := by omega
   have hcA : countA n x s L (m : Int) = if ¬ FewA (permL m).length (genN (dgOf n x s L)) then (0, 2) else ((cntD (dgOf n x s L) m : Int), 0) := by
    unfold countA
    rw [if_neg (by simp [hk]), if_neg (by simp; omega)]
    rfl
   rw [hcA]
   obtain ⟨G, hGe⟩ : ∃ G, G = dgOf n x s L := ⟨_, rfl⟩
   have hG : GoodG G := by rw [hGe]; exact good_of hS
   have hGn : G.n = n := by rw [hGe]; rfl
   have hGL : G.L = L := by rw [hGe]; rfl
   have hloops := hG.loops
   have hac := arC_le G
   have hsz := hG.size
   obtain ⟨g, hg⟩ : ∃ g, g = genN G := ⟨_, rfl⟩
   have hg' : (arC G : Int) + L = (g : Int) := by rw [hg, ← hGL]; unfold genN; omega
   have hgl : g ≤ 600 := by omega
   rw [← hGe, ← hg]
   obtain ⟨P, hP⟩ : ∃ P, P = (permL m).length := ⟨_, rfl⟩
   have hPl : P ≤ 46656 := by rw [hP]; exact permL_le hm.2
   rw [← hP]
   obtain ⟨zz, hzz⟩ : ∃ zz, zz = (if ¬ FewA P g then ((0 : Int), (2 : Int)) else ((cntD G m : Int), 0)) := ⟨_, rfl⟩
   rw [← hzz]
   simp [dV, rdN_at0, DC_of h1, hk, nl1, ng6, joined_fl]
   refine h2.imp ?_
   rintro o ⟨h3, f3⟩ ⟨pl, rfl, hp, hf, hs, hl⟩
   simp only at hf hs hl
   have hs0 : Sub h0 h3 := ((Sub.refl h0).app _).trans hs
   simp [joined_fl, hf]
   refine (presentation_ hE hl hS).imp ?_
   rintro o ⟨h4, f4⟩ ⟨v, rfl, hs4, hf4, hM⟩
   simp only at hf4 hs4 hM
   rw [← hGe] at hM ⊢
   rw [hg']
   have hM0 := hM.mat
   have hone : one1 v = true := by obtain ⟨va, vb, vo, vc, vvs, hv, hvr⟩ := hM0; rw [hv]; rfl
   have hl3 := hs.len
   simp at hl3
   have hl4 := hs4.len
   have hmin4 : min h0.length h4.length = h0.length := by omega
   obtain ⟨H, hH⟩ : ∃ H, H = h4 ++ [O.cells [.int .i64 g, v] 81 (some 0)] := ⟨_, rfl⟩
   have hlH : H.length = h4.length + 1 := by rw [hH]; simp
   have hsH : Sub h4 H := by rw [hH]; exact (Sub.refl _).app _
   have hs0H : Sub h0 H := (hs0.trans hs4).trans hsH
   have q6 : H[h4.length]? = some (.cells [.int .i64 g, v] 81 (some 0)) := by rw [hH, app_at0]; rfl
   simp [joined_fl, hf4, wrN_at0, hone, set_at0, hmin4, ← hH, rd_def, q6]
   refine DW_loop (fun kk fr st => ∃ (i : Nat) (h : List O), i + kk = g ∧ st = ⟨h, h0.length⟩ ∧ Sub H h ∧ (∀ i', i' < i → P ^ (i' + 1) ≤ 2000000) ∧ get fr 1 = .int .i64 m ∧ get fr 7 = .pointer (some ⟨h4.length, 0, none⟩) ∧ get fr 8 = .int .i64 ((P ^ i : Nat) : Int) ∧ get fr 25 = .int .i64 g ∧ get fr 26 = .int .i64 i) ?_ (k := g) ?_
   ·rintro kk fr st ⟨i, h, hik, rfl, hsub, hfew, g1, g7, g8, g25, g26⟩
    have hhl := hsub.len
    have q6h := hsub _ _ q6
    by_cases hi : i < g
    ·have hw : IntKind.i64.wrap ((i : Int) + 1) = (i : Int) + 1 := by rw [w64_id] <;> omega
     have hpi : P ^ i ≤ 2000000 := by
      cases i with
      | zero => simp
      | succ i => exact hfew i (by omega)
     have hpm : P ^ i * P ≤ 2000000 * 46656 := Nat.mul_le_mul hpi hPl
     have hpw : IntKind.i64.wrap (((P ^ i : Nat) : Int) * (P : Int)) = ((P ^ (i + 1) : Nat) : Int) := by
      rw [Nat.pow_succ, ← Int.natCast_mul]
      rw [w64_id] <;> omega
     obtain ⟨p0, hp0⟩ : ∃ p0, p0 = P ^ i := ⟨_, rfl⟩
     obtain ⟨p1, hp1⟩ : ∃ p1, p1 = P ^ (i + 1) := ⟨_, rfl⟩
     rw [← hp0] at g8 hpw
     rw [← hp1] at hpw
     simp [g1, g7, g8, g25, g26, hi]
     refine (permutations_ hE hm).imp ?_
     rintro o ⟨h5, f5⟩ ⟨w, rfl, s5, hf5, hPP⟩
     simp only at s5 hf5 hPP
     obtain ⟨wa, rfl, _⟩ := hPP.look
     rw [← hP]
     by_cases hbig : p1 ≤ 2000000
     ·have hb1 : ¬ (2000000 < (p1 : Int)) := by omega
      simp [joined_fl, hf5, g1, g7, g8, g25, g26, hpw, hb1, hw]
      refine ⟨kk - 1, by omega, i + 1, by omega, hsub.trans s5, fun i' hi' => ?_, by rw [hp1]; push_cast; rfl, by omega⟩
      by_cases e : i' < i
      ·exact hfew i' e
      ·obtain rfl : i' = i := by omega
       omega
     ·have hb1 : 2000000 < (p1 : Int) := by omega
      have hnF : ¬ FewA P g := fun hF => hbig (by rw [hp1]; exact hF i hi)
      rw [if_pos hnF] at hzz
      subst hzz
      simp [joined_fl, hf5, g1, g7, g8, g25, g26, hpw, hb1, hw, endK_ret, back, hsc]
    ·obtain rfl : i = g := by omega
     have hF : FewA P i := hfew
     rw [if_neg (fun h => h hF)] at hzz
     obtain ⟨pO, hpO⟩ : ∃ pO, pO = h.length := ⟨_, rfl⟩
     obtain ⟨h6, hh6⟩ : ∃ h6, h6 = h ++ [O.cells [.int .i64 0] 3 (some 0)] := ⟨_, rfl⟩
     have l6 : h6.length = h.length + 1 := by rw [hh6]; simp
     have q66 : h6[h4.length]? = some (.cells [.int .i64 i, v] 81 (some 0)) := by rw [hh6]; exact app_of q6h _
     have has := assignments_ hE (h := h6) (gens := i) (n := m) hone
     obtain ⟨h7, hh7⟩ : ∃ h7, h7 = h6 ++ [O.cells [.int .i64 i, v] 81 (some 0), O.cells [.int .i64 m] 3 (some 0)] := ⟨_, rfl⟩
     rw [← hh7] at has
     have l7 : h7.length = h.length + 3 := by rw [hh7]; simp [l6]
     have hmnh : min h0.length h.length = h0.length := by omega
     simp [g1, g8, g25, g26, wrN_at0, set_at0, hmnh]
     rw [← hh6]
     simp [g1, g7, g8, g25, g26, rd_def, rdN_def, q66, DC_of has, joined_fl]
     rw [← hpO]
     obtain ⟨pG, hpG⟩ : ∃ pG, pG = h6.length := ⟨_, rfl⟩
     obtain ⟨pN, hpN⟩ : ∃ pN, pN = h6.length + 1 := ⟨_, rfl⟩
     rw [← hpN, ← hpG]
     have z0 : h6[pO]? = some (O.cells [.int .i64 0] 3 (some 0)) := by rw [hh6, hpO, app_at0]; rfl
     have z1 : h7[pG]? = some (O.cells [.int .i64 i, v] 81 (some 0)) := by rw [hh7, hpG, app_at0]; rfl
     have z2 : h7[pN]? = some (O.cells [.int .i64 m] 3 (some 0)) := by rw [hh7, hpN, app_at]; rfl
     refine DW_rangeF (f := 188) (vs := [tok h7.length, .pointer (some ⟨pN, 0, none⟩), .pointer (some ⟨pG, 0, none⟩)]) (by simp) (by decide) ?_
     obtain ⟨frL, hfrL⟩ : ∃ frL, frL = put (put (put (put (put fr 27 (Value.bool false)) 9 (Value.pointer (some ⟨pO, 0, none⟩))) 36 (Value.agg #[.int .i64 i, v])) 37 (Value.int .i64 m)) 38 (Value.func (Fn.func 188) #[] #[Value.pointer (some ⟨pN, 0, none⟩), Value.pointer (some ⟨pG, 0, none⟩)]) := ⟨_, rfl⟩
     simp only []
     rw [← hfrL]
     have g9 : get frL 9 = .pointer (some ⟨pO, 0, none⟩) := by rw [hfrL]; simp
     obtain ⟨hK, hhK⟩ : ∃ hK, hK = h7 ++ [O.loop false 43 frL [39] (lcA 57 0) (lcB 57 0)] := ⟨_, rfl⟩
     have lK : hK.length = h7.length + 1 := by rw [hhK]; simp
     rw [← hhK, ← lK]
     have s67 : Sub h6 hK := by rw [hhK, hh7]; exact ((Sub.refl _).app _).app _
     have s7 : Sub h7 hK := by rw [hhK]; exact (Sub.refl _).app _
     have shK : Sub h hK := fun b o hb => s67 _ _ (by rw [hh6]; exact app_of hb _)
     have hkK : hK[h7.length]? = some (O.loop false 43 frL [39] (lcA 57 0) (lcB 57 0)) := by rw [hhK, app_at0]; rfl
     have hRl := relL_length G
     have hlet : ∀ r ∈ relL G, LetOk i r := fun r hr => by
      obtain ⟨q, hq, rfl⟩ := List.mem_map.1 hr
      exact relOf_let hG (List.mem_range.1 hq) (by rw [hg]; unfold genN; omega)
     have hcnt : (permL m).length ^ i ≤ 10000000000 := by
      rw [← hP]
      cases i with
      | zero => simp
      | succ i => have := hF i (by omega); omega
     refine (assign1_ hE hKp (hB := h4) hm hgl (by omega) hlet (hsH.trans (hsub.trans shK)) (by omega) hM0 hkK g9 (s67 _ _ z0) (s7 _ _ z2) (s7 _ _ z1) ⟨by omega, by omega, by omega⟩ hcnt).imp ?_
     rintro o ⟨h8, f8⟩ ⟨⟨w, rfl⟩, y1, y2, y3⟩
     simp only at y1 y2 y3
     refine ⟨⟨_, rfl⟩, ?_⟩
     have hk8 := y2 _ _ hkK (by omega)
     obtain ⟨f9, hj9, hf9⟩ : ∃ f9, joined ⟨hK, h0.length⟩ ⟨h8, f8⟩ = ⟨h8, f9⟩ ∧ h0.length ≤ f9 := by
      simp only [joined]
      split
      ·exact ⟨_, rfl, by omega⟩
      ·exact ⟨_, rfl, by omega⟩
     rw [hj9]
     refine ⟨_, over_eq hk8, ?_⟩
     have y4 : (h8.set h7.length .dead)[pO]? = some (.cells [.int .i64 (cntV m (permL m) (relL G) i [])] 3 (some 0)) := set_ne y3 (by omega)
     have hzc : cntD G m = cntV m (permL m) (relL G) i [] := by unfold cntD; rw [← hg]
     have hmf : h0.length ≤ min f9 h7.length := by omega
     rw [hzz, hzc]
     simp [g9, rd_def, y4, endK_ret, back, hsc]
     rw [if_pos hmf]
     exact ⟨rfl, rfl⟩
   ·exact ⟨0, H, by omega, rfl, Sub.refl _, fun i' hi' => by omega, by simp⟩
  ·unfold countA
   rw [if_neg (by simp [hk]), if_pos hk6]
   by_cases hlt : k < 1
   ·simp [dV, rdN_at0, DC_of h1, hk, hlt, endK_ret, joined_fl, back, hsc]
   ·have hgt : 6 < k := by omega
    simp [dV, rdN_at0, DC_of h1, hk, hlt, hgt, endK_ret, joined_fl, back, hsc]
 ·unfold countA
  rw [if_pos hk]
  simp [dV, rdN_at0, DC_of h1, hk, endK_ret, joined_fl, back, hsc]
end Go.Proofs.Ytjlkndkedknocaa
namespace Go.Proofs.Ytjlkndkedknocaa
open Go Go.Ai
noncomputable def GT : Dg := dgOf 3 xT sT 0
theorem GT_good : GoodG GT := good_of (kind_zero kind_T).1
theorem GT_X (i j : Nat) : GT.X i j = (xT i j).toNat := rfl
def outT : List (Nat × Nat) := [(1, 2), (0, 1), (2, 2), (1, 1), (0, 2), (2, 1)]
def inT : List (Nat × Nat) := [(0, 3), (2, 0), (1, 3), (0, 0), (2, 3), (1, 0)]
theorem in_T : ∀ c, c < 3 → ∀ q, q < 4 → outB 1 q = false → inT.getD (xT c q).toNat (0, 0) = (c, q) := by decide
theorem GT_in {a : Nat} (ha : a < 6) : finT GT a = inT.getD a (0, 0) := by
 obtain ⟨t0, t1, t2, t3, x1, x2, _⟩ := GT_good.T a ha
 obtain ⟨d1, d2⟩ := GT_good.dir a ha
 have := in_T (GT.T a 2) t2 (GT.T a 3) t3 d2
 rw [← GT_X, x2] at this
 exact this.symm
theorem GT_nx {a : Nat} (ha : a < 6) : nx GT a = (a + 1) % 6 := by
 have h := GT_in ha
 unfold finT at h
 have h1 := congrArg Prod.fst h
 have h2 := congrArg Prod.snd h
 simp only at h1 h2
 unfold nx
 rw [h1, h2, GT_X]
 match a, ha with
 | 0, _ => rfl
 | 1, _ => rfl
 | 2, _ => rfl
 | 3, _ => rfl
 | 4, _ => rfl
 | 5, _ => rfl
theorem GT_itr {a : Nat} (ha : a < 6) : ∀ t, itr (nx GT) a t = (a + t) % 6 := by
 intro t
 induction t with
 | zero => simp only [itr]; omega
 | succ t ih =>
  simp only [itr]
  rw [ih, GT_nx (by omega)]
  omega
theorem GT_orb : OrbI 6 (nx GT) 6 1 [0, 0, 0, 0, 0, 0] := by
 have h0 : ∀ j, j < 6 → nth [0, 0, 0, 0, 0, 0] j = 0 := by decide
 refine ⟨rfl, fun j hj => .inr ⟨by rw [h0 j hj]; exact Int.le_refl _, by rw [h0 j hj]; decide⟩, fun j hj => by rw [h0 j hj]; exact Int.le_refl _, fun a b ha hb _ => ⟨fun _ => ⟨b + 6 - a, ?_⟩, fun _ => by rw [h0 a ha, h0 b hb]⟩, fun j hj => ⟨0, by omega, by rw [h0 0 (by omega)]; omega, fun b hb => by omega⟩⟩
 rw [GT_itr ha]
 omega
theorem GT_cp : cpL GT = [0, 0, 0, 0, 0, 0] ∧ cpK GT = 1 := by
 obtain ⟨h1, h2⟩ := cp_eq (G := GT) GT_orb
 exact ⟨h1.symm, h2.symm⟩
theorem GT_per : perA GT 0 = 6 := by
 obtain ⟨⟨h1, h2, h3⟩, h4⟩ := perA_spec GT_good (show 0 < 2 * GT.n by decide)
 rw [GT_itr (by omega)] at h2
 have h5 : 2 * GT.n = 6 := rfl
 omega
theorem GT_arR : ∀ a, a < 6 → arR GT a = a / 2 * 2 := by
 intro a ha
 match a, ha with
 | 0, _ => rfl
 | 1, _ => rfl
 | 2, _ => rfl
 | 3, _ => rfl
 | 4, _ => rfl
 | 5, _ => rfl
theorem GT_cnt : ∀ i, i ≤ 6 → cntR (arR GT) i = (i + 1) / 2 := by
 intro i
 induction i with
 | zero => intro _; rfl
 | succ i ih =>
  intro hi
  rw [cntR_succ, ih (by omega), GT_arR i (by omega)]
  split <;> omega
theorem GT_arN {a : Nat} (ha : a < 6) : arN GT a = a / 2 := by
 unfold arN
 rw [GT_arR a ha, GT_cnt _ (by omega)]
 omega
theorem GT_arC : arC GT = 3 := GT_cnt 6 (by omega)
theorem GT_gen {c q : Nat} (hc : c < 3) (hq : q < 4) : gen GT (GT.X c q) = ((xT c q).toNat / 2 : Nat) + 1 := by
 unfold gen
 rw [GT_arN (GT_good.X c q hc hq)]
 rfl
def relsT : List (List Int) := [[-1, 2, 1, -3], [-2, 3, 2, -1], [-3, 1, 3, -2]]
theorem GT_rel : relL GT = relsT := by
 have h : ∀ i, i < 3 → relOf GT i = nthR relsT i := fun i hi => by
  unfold relOf
  rw [GT_gen hi (by omega), GT_gen hi (by omega), GT_gen hi (by omega)]
  match i, hi with
  | 0, _ => rfl
  | 1, _ => rfl
  | 2, _ => rfl
 show [relOf GT 0, relOf GT 1, relOf GT 2] = relsT
 rw [h 0 (by omega), h 1 (by omega), h 2 (by omega)]
 rfl
theorem GT_word {c q : Nat} (hc : c < 3) (hq : q < 4) : wordP GT (c, q) = if q = 0 then [(((xT c 1).toNat / 2 : Nat) : Int) + 1] else [] := by
 unfold wordP
 split
 ·rw [GT_gen hc (by omega)]
  show [_ * (1 : Int)] = _
  rw [Int.mul_one]
 ·rfl
theorem GT_own {c q : Nat} (hc : c < 3) (hq : q < 4) : ownP GT 0 (c, q) = if q = 0 then 1 else 0 := by
 unfold ownP
 rw [GT_cp.1]
 have h0 : nth [0, 0, 0, 0, 0, 0] (GT.X c 1) = 0 := by
  have h := GT_good.X c 1 hc (by omega)
  have hj : ∀ j, j < 6 → nth [0, 0, 0, 0, 0, 0] j = 0 := by decide
  exact hj _ h
 simp only [h0, and_true]
 rfl
theorem GT_lon : lonD GT 0 = [3, 1, 2, -1, -1, -1] := by
 have hf : fstA GT 0 = 0 := by
  unfold fstA
  exact firstI_found (i := 0) (by decide) (by rw [GT_cp.1]; rfl) (fun j hj => by omega)
 have hi : ∀ t, t < 6 → finT GT (itr (nx GT) 0 t) = inT.getD t (0, 0) := fun t ht => by
  rw [GT_itr (by omega), Nat.zero_add, Nat.mod_eq_of_lt ht, GT_in ht]
 have hw : wordT GT 0 6 = [3, 1, 2] := by
  simp only [wordT]
  rw [hi 0 (by omega), hi 1 (by omega), hi 2 (by omega), hi 3 (by omega), hi 4 (by omega), hi 5 (by omega)]
  show ((((([] ++ wordP GT (0, 3)) ++ wordP GT (2, 0)) ++ wordP GT (1, 3)) ++ wordP GT (0, 0)) ++ wordP GT (2, 3)) ++ wordP GT (1, 0) = _
  rw [GT_word (by omega) (by omega), GT_word (by omega) (by omega), GT_word (by omega) (by omega), GT_word (by omega) (by omega), GT_word (by omega) (by omega), GT_word (by omega) (by omega)]
  rfl
 have ho : lonS GT 0 = 3 := by
  unfold lonS
  rw [hf]
  show ownT GT 0 0 (perA GT 0) = 3
  rw [GT_per]
  simp only [ownT]
  rw [hi 0 (by omega), hi 1 (by omega), hi 2 (by omega), hi 3 (by omega), hi 4 (by omega), hi 5 (by omega)]
  show (((((0 + ownP GT 0 (0, 3)) + ownP GT 0 (2, 0)) + ownP GT 0 (1, 3)) + ownP GT 0 (0, 0)) + ownP GT 0 (2, 3)) + ownP GT 0 (1, 0) = 3
  rw [GT_own (by omega) (by omega), GT_own (by omega) (by omega), GT_own (by omega) (by omega), GT_own (by omega) (by omega), GT_own (by omega) (by omega), GT_own (by omega) (by omega)]
  rfl
 have hm : merD GT 0 = 1 := by
  unfold merD
  rw [hf]
  show (if (0 : Int) ≤ 0 then ((arN GT 0 : Nat) : Int) + 1 else _) = 1
  rw [GT_arN (by omega)]
  rfl
 unfold lonD
 rw [hf, ho, hm]
 show (if (0 : Int) ≤ 0 then wordT GT 0 (perA GT 0) ++ List.replicate 3 (-1) ++ List.replicate 0 1 else []) = _
 rw [GT_per, hw]
 rfl
end Go.Proofs.Ytjlkndkedknocaa
namespace Go.Proofs.Ytjlkndkedknocaa
open Go Go.Ai
def trivB (A B : List (List Int)) (w : List Int) (n : Nat) : Bool := (List.range n).all fun i => actW A B w i == (i : Int)
theorem trivB_eq {A B : List (List Int)} {w : List Int} {n : Nat} : trivB A B w n = true ↔ TrivL A B w n := by
 unfold trivB TrivL
 rw [List.all_eq_true]
 exact ⟨fun h i hi => by simpa using h i (List.mem_range.2 hi), fun h i hi => by simpa using h i (List.mem_range.1 hi)⟩
def goodB (n : Nat) (rels A : List (List Int)) : Bool := (List.range (readyL rels A.length).length).all fun i => trivB A (A.map invL) (nthR (readyL rels A.length) i) n
theorem goodB_eq {n : Nat} {rels A : List (List Int)} : goodB n rels A = true ↔ GoodA n rels A := by
 unfold goodB GoodA
 rw [List.all_eq_true]
 exact ⟨fun h i hi => trivB_eq.1 (h i (List.mem_range.2 hi)), fun h i hi => trivB_eq.2 (h i (List.mem_range.1 hi))⟩
def cntB (n : Nat) (P rels : List (List Int)) : Nat → List (List Int) → Nat
 | 0, _ => 1
 | m + 1, im => sumNat (fun q => bif goodB n rels (im ++ [nthR P q]) then cntB n P rels m (im ++ [nthR P q]) else 0) P.length
theorem cntB_eq (n : Nat) (P rels : List (List Int)) : ∀ m im, cntV n P rels m im = cntB n P rels m im := by
 intro m
 induction m with
 | zero => intro im; rfl
 | succ m ih =>
  intro im
  simp only [cntV, cntB]
  congr 1
  funext q
  rw [ih]
  by_cases h : GoodA n rels (im ++ [nthR P q])
  ·rw [if_pos h, goodB_eq.2 h]; rfl
  ·rw [if_neg h]
   have : goodB n rels (im ++ [nthR P q]) = false := by
    cases hb : goodB n rels (im ++ [nthR P q]) with
    | true => exact absurd (goodB_eq.1 hb) h
    | false => rfl
   rw [this]; rfl
set_option maxRecDepth 100000 in
theorem cnt_T : cntB 3 (permL 3) relsT 3 [] = 12 := by kernel_rfl
theorem count_T : countA 3 xT sT 0 3 = (12, 0) := by
 have hP : (permL 3).length = 6 := by decide
 have hg : genN GT = 3 := by unfold genN; rw [GT_arC]; rfl
 have hF : FewA (permL 3).length (genN (dgOf 3 xT sT 0)) := by
  show FewA (permL 3).length (genN GT)
  rw [hP, hg]
  intro i hi
  match i, hi with
  | 0, _ => decide
  | 1, _ => decide
  | 2, _ => decide
 unfold countA
 rw [if_neg (by simp [kind_T]), if_neg (by decide), if_neg (fun h => h hF)]
 show ((cntV 3 (permL 3) (relL GT) (genN GT) [] : Int), (0 : Int)) = (12, 0)
 rw [hg, GT_rel, cntB_eq, cnt_T]
 rfl
end Go.Proofs.Ytjlkndkedknocaa
namespace Go.Proofs.Ytjlkndkedknocaa
open Go Go.Ai
attribute [local instance] Classical.propDecidable
structure WE (E : Env) : Prop where
 oe : OE E
 kept : SumsKept E
 walk : ∀ (h : List O) (pl n : Nat) (x : Nat → Nat → Int) (s : Nat → Int) (L i : Int), LnkP h pl n x s L → Snd n x s L → DR E 148 [.pointer (some ⟨pl, 0, none⟩), .int .i64 i] ⟨h, h.length⟩ (.ret (walkV h)) ⟨walkM h pl i (dgOf n x s L), h.length⟩
noncomputable def E1 : Env := withK E0 4 148
theorem walk_callable : Callable Try.prog 148 := callableB_ok (by kernel_rfl)
theorem E1_ok (B : Nat) : EnvOk Fence.wide Try.prog B E1 := withK_ok follows E0_ok E0_kept walk_callable B
theorem E1_WE : WE E1 := ⟨E0_OE.sum148, withK_kept E0_kept, fun h pl n x s L i hl hS => by
 refine withK_DR (walk_ E0_OE (E0_S _) hl hS i) ⟨Nat.le_refl _, ?_, fun id h1 _ => ?_⟩
 ·simp only [walkM]; simp
 ·simp only [walkM]
  rw [List.append_assoc]
  exact List.getElem?_append_left h1⟩
theorem ints_at {h : List O} {v : Value} {xs : List Int} (hx : Ints h v xs) : ∃ a b o c, v = .slice a xs.length c ∧ (0 < xs.length → a = some ⟨b, o, none⟩) ∧ (∀ i, i < xs.length → rdO h[b]? (o + i) = some (.int .i64 (nth xs i))) ∧ xs.length < 2 ^ 62 := by
 obtain ⟨a, b, o, c, h1, h2, h3, h4, h5⟩ := hx
 exact ⟨a, b, o, c, h1, h2, fun i hi => by rw [← rd_def]; exact h3 i hi, h5⟩
variable {E : Env} (hE : OE E)
include hE
theorem sameI_ {h : List O} {va vb : Value} {xs ys : List Int} (hx : Ints h va xs) (hy : Ints h vb ys) :
  DR E 76 [va, vb] ⟨h, h.length⟩ (.ret (.bool (decide (xs = ys)))) ⟨h, h.length⟩ := by
 refine hE.fn (body := rb76) rfl ?_
 unfold rb76
 obtain ⟨xa, xb, xo, xc, rfl, ha, hxr, hxl⟩ := ints_at hx
 obtain ⟨ya, yb, yo, yc, rfl, hb, hyr, hyl⟩ := ints_at hy
 have hsc : ∀ b : Bool, (Out.ret (.bool b)).scalar = true := fun _ => rfl
 by_cases hl : xs.length = ys.length
 ·have hl' : (xs.length : Int) = ys.length := by omega
  simp [hl']
  refine DW_loop (fun kk fr st => ∃ (i : Nat), i + kk = ys.length ∧ st = ⟨h, h.length⟩ ∧ (∀ j, j < i → nth xs j = nth ys j) ∧ get fr 0 = .slice xa xs.length xc ∧ get fr 1 = .slice ya ys.length yc ∧ get fr 12 = .int .i64 ys.length ∧ get fr 13 = .int .i64 i) ?_ (k := ys.length) ?_
  ·rintro kk fr st ⟨i, hik, rfl, hd, g0, g1, g12, g13⟩
   by_cases hi : i < ys.length
   ·have hw : IntKind.i64.wrap ((i : Int) + 1) = (i : Int) + 1 := by rw [w64_id] <;> omega
    have hi' : i < xs.length := by omega
    obtain rfl := ha (by omega)
    obtain rfl := hb (by omega)
    by_cases he : nth xs i = nth ys i
    ·simp [g0, g1, g12, g13, hi, hi', hl, rd_def, hxr i hi', hyr i hi, he, hw]
     refine ⟨kk - 1, by omega, i + 1, by omega, fun j hj => ?_, by omega⟩
     by_cases e : j = i
     ·rw [e]; exact he
     ·exact hd j (by omega)
    ·have hne : ¬ xs = ys := fun e => he (by rw [e])
     simp [g0, g1, g12, g13, hi, hi', hl, rd_def, hxr i hi', hyr i hi, he, hne, endK_ret, back, hsc]
   ·obtain rfl : i = ys.length := by omega
    have heq : xs = ys := by
     apply List.ext_getElem hl
     intro j h1 h2
     rw [← nth_eq h1, ← nth_eq h2]
     exact hd j h2
    simp [g0, g1, g12, g13, heq, endK_ret, back, hsc]
  ·exact ⟨0, by omega, rfl, fun j hj => by omega, by simp [hl]⟩
 ·have hl' : ¬ (xs.length : Int) = ys.length := by omega
  have hne : ¬ xs = ys := fun e => hl (by rw [e])
  simp [hl, hl', hne, endK_ret, back, hsc]
end Go.Proofs.Ytjlkndkedknocaa
namespace Go.Proofs.Ytjlkndkedknocaa
open Go Go.Ai
attribute [local instance] Classical.propDecidable
theorem saneW_ {E : Env} (hW : WE E) {h0 : List O} : DR E 56 [] ⟨h0, h0.length⟩ (.ret (.bool true)) ⟨h0, h0.length⟩ := by
 have hE := hW.oe
 refine hE.fn (body := rb56) rfl ?_
 unfold rb56
 have hp := parse_ hE kind_T (h0 := h0)
 unfold textB at hp
 simp
 refine hp.imp ?_
 rintro o ⟨h1, f1⟩ ⟨a, c, rfl, s1, hf1, hx⟩
 simp only at s1 hf1 hx
 have hx2 : CrossP (h1 ++ [O.cells [.slice a 3 c, .int .i64 0] 24 (some 0)]) a 3 xT sT := hx.ext (Ext.snoc _ _)
 have hc := countW_ hE hW.kept (c := c) (L := 0) (k := 3) hx2
 rw [count_T] at hc
 simp [dV] at hc
 have hl := longitude_ hE hW.walk (c := c) (L := 0) hx2 0
 simp [dV, kind_T] at hl
 have hone : ∀ n, one1 (.slice a n c) = true := fun _ => rfl
 simp [joined_fl, hf1, dV, wrN_at0, set_at0, rdN_at0, DC_of hc]
 refine hl.imp ?_
 rintro o ⟨h2, f2⟩ hq
 have hcp : cpK (dgOf 3 xT sT 0) = 1 := GT_cp.2
 rw [hcp] at hq
 simp at hq
 obtain ⟨v, rfl, s2, hf2, hI⟩ := hq
 simp only at s2 hf2 hI
 have hlon : lonD (dgOf 3 xT sT 0) 0 = [3, 1, 2, -1, -1, -1] := GT_lon
 rw [hlon] at hI
 simp at hf2
 have s02 : h1.length + 1 ≤ h2.length := by
  have h0 : (h1 ++ [O.cells [.slice a 3 c, .int .i64 0] 24 (some 0)])[h1.length]? = some (O.cells [.slice a 3 c, .int .i64 0] 24 (some 0)) := by rw [app_at0]; rfl
  have := (List.getElem?_eq_some_iff.1 (s2 _ _ h0)).1
  omega
 have hl1 := s1.len
 have hmn : min h0.length h1.length = h0.length := by omega
 have hI2 := hI.ext (Ext.snoc h2 [O.cells (intsC [3, 1, 2, -1, -1, -1]) 3 (some 0)])
 have hJ : Ints (h2 ++ [O.cells (intsC [3, 1, 2, -1, -1, -1]) 3 (some 0)]) (.slice (some ⟨h2.length, 0, none⟩) 6 6) [3, 1, 2, -1, -1, -1] := by
  refine ⟨_, h2.length, 0, 6, rfl, fun _ => rfl, fun i hi => ?_, fun i => ?_, by decide⟩
  ·rw [rd_def, app_at0]
   match i, hi with
   | 0, _ => rfl
   | 1, _ => rfl
   | 2, _ => rfl
   | 3, _ => rfl
   | 4, _ => rfl
   | 5, _ => rfl
  ·match i with
   | 0 => decide
   | 1 => decide
   | 2 => decide
   | 3 => decide
   | 4 => decide
   | 5 => decide
   | i + 6 => rw [nth_ge (by simp)]; decide
 have hs := sameI_ hE hI2 hJ
 rw [decide_eq_true rfl] at hs
 simp [intsC] at hs
 simp [joined_fl, hf2, hmn, DC_of hs, endK_ret, back]
 rw [if_pos (show (Out.ret (Value.bool true)).scalar = true from rfl)]
 exact ⟨rfl, rfl⟩
end Go.Proofs.Ytjlkndkedknocaa
namespace Go.Ai
end Go.Ai
namespace Go.Proofs.Ytjlkndkedknocaa
open Go Go.Ai
attribute [local instance] Classical.propDecidable
theorem mat_at {h : List O} {v : Value} {A : List (List Int)} (hm : Mat h v A) : ∃ a b o c, ∃ vs : Nat → Value, v = .slice a A.length c ∧ (0 < A.length → a = some ⟨b, o, none⟩) ∧ (∀ i, i < A.length → rdO h[b]? (o + i) = some (vs i) ∧ Ints h (vs i) (nthR A i)) ∧ A.length < 2 ^ 62 := by
 obtain ⟨a, b, o, c, vs, h1, h2, h3, h4⟩ := hm
 exact ⟨a, b, o, c, vs, h1, h2, fun i hi => ⟨by rw [← rd_def]; exact (h3 i hi).1, (h3 i hi).2⟩, h4⟩
variable {E : Env} (hE : OE E)
include hE
end Go.Proofs.Ytjlkndkedknocaa
namespace Go.Proofs.Ytjlkndkedknocaa
open Go Go.Ai
attribute [local instance] Classical.propDecidable
noncomputable def arcW (n : Nat) (x : Nat → Nat → Int) (s : Nat → Int) (L : Int) : Int := if kindD n x s L ≠ 0 then 0 else arC (dgOf n x s L) + L
noncomputable def arlW (n : Nat) (x : Nat → Nat → Int) (s : Nat → Int) (L : Int) : List Int := if kindD n x s L ≠ 0 then [] else arL (dgOf n x s L)
noncomputable def relW (n : Nat) (x : Nat → Nat → Int) (s : Nat → Int) (L : Int) : List (List Int) := if kindD n x s L ≠ 0 then [] else relL (dgOf n x s L)
def ArcU (h0 : List O) (ws : List Int) (cnt e : Int) (o : Out) (st' : St) : Prop := ∃ v, o = .ret (.tuple #[v, .int .i64 cnt, .int .i64 e]) ∧ Sub h0 st'.h ∧ h0.length ≤ st'.fl ∧ Ints st'.h v ws
def OfU (h0 : List O) (A : List (List Int)) (cnt e : Int) (o : Out) (st' : St) : Prop := ∃ v, o = .ret (.tuple #[.agg #[.int .i64 cnt, v], .int .i64 e]) ∧ Sub h0 st'.h ∧ h0.length ≤ st'.fl ∧ Mat st'.h v A
theorem mat_nil (h : List O) : Mat h (.slice none 0 0) [] := ⟨none, 0, 0, 0, fun _ => undef, rfl, fun h => absurd h (by simp), fun i hi => absurd hi (by simp), by simp⟩
variable {E : Env} (hE : OE E)
include hE
theorem ofU_ {h0 : List O} {a : Option Addr} {n c : Nat} {x : Nat → Nat → Int} {s : Nat → Int} {L : Int} (hx : CrossP h0 a n x s) :
  DC E 63 [dV a n c L] ⟨h0, h0.length⟩ (OfU h0 (relW n x s L) (arcW n x s L) (kindD n x s L)) := by
 refine (ofW_ hE (c := c) (L := L) hx).imp fun o st' hq => ?_
 unfold OfU relW arcW
 rcases hq with ⟨h1, rfl, z1, z2⟩ | ⟨h1, v, rfl, z1, z2, z3⟩
 ·simp only [if_pos h1]
  exact ⟨_, rfl, z1, z2, mat_nil _⟩
 ·simp only [ne_eq, h1, not_true_eq_false, if_false]
  exact ⟨_, rfl, z1, z2, z3.mat⟩
end Go.Proofs.Ytjlkndkedknocaa
namespace Go.Ai
attribute [local instance] Classical.propDecidable
def clipV (z : Int) : Int := if 1000000000 < z then 0 else if z < -1000000000 then 0 else z
theorem clipV_le (z : Int) : -1000000000 ≤ clipV z ∧ clipV z ≤ 1000000000 := by unfold clipV; split <;> (try split) <;> omega
def sumW (w : List Int) (val : Int → Int) : Nat → Int
 | 0 => 0
 | j + 1 => if 0 < nth w j then sumW w val j + val (nth w j) else sumW w val j - val (nth w j)
theorem sumW_le (w : List Int) {val : Int → Int} (hv : ∀ y, -1000000000 ≤ val y ∧ val y ≤ 1000000000) : ∀ j : Nat, -(1000000000 * (j : Int)) ≤ sumW w val j ∧ sumW w val j ≤ 1000000000 * j := by
 intro j
 induction j with
 | zero => simp [sumW]
 | succ j ih =>
  have := hv (nth w j)
  simp only [sumW]
  split <;> omega
end Go.Ai
namespace Go.Proofs.Ytjlkndkedknocaa
open Go Go.Ai
attribute [local instance] Classical.propDecidable
noncomputable def arcY (G : Dg) (y : Int) : Int := firstI (fun j => decide ((arN G j : Int) = max y (-y) - 1)) (2 * G.n)
noncomputable def valY (G : Dg) (xs nums : List Int) (y : Int) : Int := clipV (nth nums (nth xs (arcY G y).toNat).toNat)
theorem arcY_at {G : Dg} {y : Int} {a : Nat} (ha : a < 2 * G.n) (hy : max y (-y) = gen G a) : ∃ k : Nat, arcY G y = k ∧ k < 2 * G.n ∧ (arN G k : Int) = max y (-y) - 1 ∧ arN G k = arN G a ∧ ∀ t, t < k → (arN G t : Int) ≠ max y (-y) - 1 := by
 unfold arcY
 have hya : max y (-y) - 1 = arN G a := by rw [hy]; unfold gen; omega
 rcases firstI_cases (fun j => decide ((arN G j : Int) = max y (-y) - 1)) (2 * G.n) with ⟨k, h1, h2, h4, h3⟩ | ⟨h1, _⟩
 ·have := of_decide_eq_true h2
  exact ⟨k, h3, h1, this, by omega, fun t ht => of_decide_eq_false (h4 t ht)⟩
 ·have := h1 a ha
  simp [hya] at this
theorem valY_at {G : Dg} (hG : GoodG G) {xs nums : List Int} {k : Nat} (hO : OrbI (2 * G.n) (nx G) (2 * G.n) k xs) {y : Int} {a : Nat} (ha : a < 2 * G.n) (hy : max y (-y) = gen G a) : valY G xs nums y = clipV (nth nums (nth xs a).toNat) := by
 obtain ⟨j, h1, _, _, h2, _⟩ := arcY_at ha hy
 unfold valY
 rw [h1, Int.toNat_natCast, arch_comp hG hO h2]
theorem sum_rel {G : Dg} (hG : GoodG G) {xs nums : List Int} {k : Nat} (hO : OrbI (2 * G.n) (nx G) (2 * G.n) k xs) {i : Nat} (hi : i < G.n) : sumW (relOf G i) (valY G xs nums) 4 = 0 := by
 have g := fun q (hq : q < 4) => (gen_le hG hi hq).1
 have x := fun q (hq : q < 4) => hG.X i q hi hq
 have v0 := valY_at hG (nums := nums) hO (y := gen G (G.X i 0)) (x 0 (by omega)) (by have := g 0 (by omega); omega)
 have v2 := valY_at hG (nums := nums) hO (y := -(gen G (G.X i 2))) (x 2 (by omega)) (by have := g 2 (by omega); omega)
 have u1 := valY_at hG (nums := nums) hO (y := gen G (G.X i 1)) (x 1 (by omega)) (by have := g 1 (by omega); omega)
 have u2 := valY_at hG (nums := nums) hO (y := -(gen G (G.X i 1))) (x 1 (by omega)) (by have := g 1 (by omega); omega)
 have hs := strandC hG hO hi (show 0 < 4 by omega)
 simp only [Nat.reduceAdd, Nat.reduceMod] at hs
 rw [hs] at v2
 have e0 := g 0 (by omega)
 have e1 := g 1 (by omega)
 have e2 := g 2 (by omega)
 unfold relOf
 rcases hG.sign i hi with e | e <;> rw [e]
 ·rw [show -(gen G (G.X i 1)) * 1 = -(gen G (G.X i 1)) by omega, show gen G (G.X i 1) * 1 = gen G (G.X i 1) by omega]
  simp only [sumW, nth, List.getD_cons_zero, List.getD_cons_succ]
  rw [if_neg (show ¬ 0 < -(gen G (G.X i 1)) by omega), if_pos (show 0 < gen G (G.X i 0) by omega), if_pos (show 0 < gen G (G.X i 1) by omega), if_neg (show ¬ 0 < -(gen G (G.X i 2)) by omega), v0, v2, u1, u2]
  omega
 ·rw [show -(gen G (G.X i 1)) * -1 = gen G (G.X i 1) by omega, show gen G (G.X i 1) * -1 = -(gen G (G.X i 1)) by omega]
  simp only [sumW, nth, List.getD_cons_zero, List.getD_cons_succ]
  rw [if_pos (show 0 < gen G (G.X i 1) by omega), if_pos (show 0 < gen G (G.X i 0) by omega), if_neg (show ¬ 0 < -(gen G (G.X i 1)) by omega), if_neg (show ¬ 0 < -(gen G (G.X i 2)) by omega), v0, v2, u1, u2]
  omega
theorem rel_arc {G : Dg} (hG : GoodG G) {i : Nat} (hi : i < G.n) {j : Nat} (hj : j < 4) : ∃ a, a < 2 * G.n ∧ max (nth (relOf G i) j) (-(nth (relOf G i) j)) = gen G a := by
 have g := fun q (hq : q < 4) => (gen_le hG hi hq).1
 have e0 := g 0 (by omega)
 have e1 := g 1 (by omega)
 have e2 := g 2 (by omega)
 have x := fun q (hq : q < 4) => hG.X i q hi hq
 unfold relOf
 rcases hG.sign i hi with e | e <;> rw [e]
 all_goals
  match j, hj with
  | 0, _ => exact ⟨_, x 1 (by omega), by simp only [nth, List.getD_cons_zero]; omega⟩
  | 1, _ => exact ⟨_, x 0 (by omega), by simp only [nth, List.getD_cons_zero, List.getD_cons_succ]; omega⟩
  | 2, _ => exact ⟨_, x 1 (by omega), by simp only [nth, List.getD_cons_zero, List.getD_cons_succ]; omega⟩
  | 3, _ => exact ⟨_, x 2 (by omega), by simp only [nth, List.getD_cons_zero, List.getD_cons_succ]; omega⟩
noncomputable def fixR (r : List Int) : Nat := cntP (fun i => nth r i = i) r.length
theorem fixR_S {N : Nat} {r : List Int} (h : PermL N r) : fixR r = fixN N (toSy N r) := by
 unfold fixR fixN
 rw [h.len]
 refine cntP_congr fun i hi => ?_
 have hr := h.rng i (by rw [h.len]; exact hi)
 rw [toSy_f h, if_pos hi]
 omega
variable {E : Env} (hE : OE E)
include hE
theorem fixed_ {h : List O} {v : Value} {r : List Int} (hv : Ints h v r) (hs : r.length ≤ 1000) :
  DR E 68 [v] ⟨h, h.length⟩ (.ret (.int .i64 (fixR r))) ⟨h, h.length⟩ := by
 refine hE.fn (body := rb68) rfl ?_
 unfold rb68
 obtain ⟨va, vb, vo, vc, rfl, ha, hr⟩ := hv.at
 have hsc : ∀ b : Int, (Out.ret (.int .i64 b)).scalar = true := fun _ => rfl
 simp
 refine DW_loop (fun kk fr st => ∃ (i : Nat), i + kk = r.length ∧ st = ⟨h, h.length⟩ ∧ get fr 3 = .int .i64 (cntP (fun i => nth r i = i) i) ∧ get fr 6 = .slice va r.length vc ∧ get fr 7 = .int .i64 r.length ∧ get fr 8 = .int .i64 i) ?_ (k := r.length) ?_
 ·rintro kk fr st ⟨i, hik, rfl, g3, g6, g7, g8⟩
  by_cases hi : i < r.length
  ·have hwi : IntKind.i64.wrap ((i : Int) + 1) = (i : Int) + 1 := by rw [w64_id] <;> omega
   obtain rfl := ha (by omega)
   have hle := cntP_le (fun i => nth r i = i) i
   have hwc : IntKind.i64.wrap ((cntP (fun i => nth r i = i) i : Int) + 1) = (cntP (fun i => nth r i = i) i : Int) + 1 := by rw [w64_id] <;> omega
   by_cases he : nth r i = i
   ·have hc : cntP (fun i => nth r i = i) (i + 1) = cntP (fun i => nth r i = i) i + 1 := by simp only [cntP]; rw [if_pos he]
    simp [g3, g6, g7, g8, hi, rd_def, hr i hi, he, hwi, hwc]
    exact ⟨kk - 1, by omega, i + 1, by omega, by omega, by omega⟩
   ·have hc : cntP (fun i => nth r i = i) (i + 1) = cntP (fun i => nth r i = i) i := by simp only [cntP]; rw [if_neg he]; rfl
    have he' : ¬ (i : Int) = nth r i := fun e => he e.symm
    simp [g3, g6, g7, g8, hi, rd_def, hr i hi, he', hwi]
    exact ⟨kk - 1, by omega, i + 1, by omega, by omega, by omega⟩
  ·have hir : i = r.length := by omega
   subst hir
   simp [g3, g6, g7, g8, endK_ret, back, hsc]
   rfl
 ·exact ⟨0, by omega, rfl, by simp [cntP]⟩
end Go.Proofs.Ytjlkndkedknocaa
namespace Go.Proofs.Ytjlkndkedknocaa
open Go Go.Ai
attribute [local instance] Classical.propDecidable
set_option maxHeartbeats 2000000 in
theorem law11 {E : Env} (hW : WE E) {h0 : List O} {a : Option Addr} {n c : Nat} {x : Nat → Nat → Int} {s : Nat → Int} {L left : Int} {vA vM : Value} {A : List (List Int)} {nums : List Int} (hx : CrossP h0 a n x s) (hA : MatP h0 vA A) (hrows : ∀ i, i < A.length → (nthR A i).length * 8 ≤ roomMax) (hM : Ints h0 vM nums) :
  DR E 11 [dV a n c L, vA, .int .i64 left, vM] ⟨h0, h0.length⟩ (.ret (.bool true)) ⟨h0, h0.length⟩ := by
 have hE := hW.oe
 refine hE.fn (body := rb11) rfl ?_
 unfold rb11
 have hsc : (Out.ret (.bool true)).scalar = true := rfl
 obtain ⟨va, vb, vo, vc, vs, rfl, ha, hvr, hvl⟩ := mat_at hA.mat
 obtain ⟨ma, mb, mo, mc, rfl, hma, hmr, hml⟩ := ints_at hM
 obtain ⟨h1, hh1⟩ : ∃ H, H = h0 ++ [O.cells [.slice a n c, .int .i64 L] 24 (some 0)] := ⟨_, rfl⟩
 have s1 : Sub h0 h1 := by rw [hh1]; exact (Sub.refl _).app _
 have l1 : h1.length = h0.length + 1 := by rw [hh1]; simp
 have b1 : h1[h0.length]? = some (O.cells [.slice a n c, .int .i64 L] 24 (some 0)) := by rw [hh1, app_at0]; rfl
 have hj1 : joined ⟨h1, h0.length⟩ ⟨h1, h1.length⟩ = ⟨h1, h0.length⟩ := joined_mk _ _
 have q56 := saneW_ hW (h0 := h1)
 by_cases hn : 30 < n
 ·have hn' : 30 < (n : Int) := by omega
  simp [dV, ← hh1, rd_def, b1, hn, hn', DC_of q56, hj1, endK_ret, back, hsc]
 have hn' : ¬ 30 < (n : Int) := by omega
 by_cases hA100 : 100 < A.length
 ·have hA100' : 100 < (A.length : Int) := by omega
  simp [dV, ← hh1, rd_def, b1, hn, hn', hA100, hA100', DC_of q56, hj1, endK_ret, back, hsc]
 have hA100' : ¬ 100 < (A.length : Int) := by omega
 have hx1 := hx.sub s1
 have hof := ofU_ hE (c := c) (L := L) hx1
 obtain ⟨kd, hkd⟩ : ∃ kd, kd = kindD n x s L := ⟨_, rfl⟩
 obtain ⟨ac, hac⟩ : ∃ ac, ac = arcW n x s L := ⟨_, rfl⟩
 obtain ⟨rl, hrl⟩ : ∃ rl, rl = relW n x s L := ⟨_, rfl⟩
 rw [← hkd, ← hac, ← hrl] at hof
 simp only [dV] at hof
 simp [dV, ← hh1, rd_def, b1, hn, hn', hA100, hA100', rdN_def]
 refine hof.imp ?_
 rintro o ⟨h2, f2⟩ ⟨v2, rfl, s2, hf2, hM2⟩
 simp only at s2 hf2 hM2
 have l2 := s2.len
 obtain ⟨ra, rb, ro, rc, rvs, rfl, hra, hrr, hrl2⟩ := mat_at hM2
 have one4 : one1 (.slice ra rl.length rc) = true := rfl
 obtain ⟨h3, hh3⟩ : ∃ H, H = h2 ++ [O.cells [.int .i64 ac, .slice ra rl.length rc] 81 (some 0)] := ⟨_, rfl⟩
 have s3 : Sub h2 h3 := by rw [hh3]; exact (Sub.refl _).app _
 have p3' : h3[h2.length]? = some (O.cells [.int .i64 ac, .slice ra rl.length rc] 81 (some 0)) := by rw [hh3, app_at0]; rfl
 have b3 := s3 _ _ (s2 _ _ b1)
 have hmin : min h0.length h2.length = h0.length := by omega
 obtain ⟨Q, hQ⟩ : ∃ Q, Q = h2.length := ⟨_, rfl⟩
 have p3 : h3[Q]? = some (O.cells [.int .i64 ac, .slice ra rl.length rc] 81 (some 0)) := by rw [hQ]; exact p3'
 have hx3 := (hx1.sub s2).sub s3
 have r56 := saneW_ hW (h0 := h3)
 have q58 := checkR_ hE (c := c) (L := L) hx3
 rw [← hkd] at q58
 simp only [dV] at q58
 have hj3 : joined ⟨h3, h0.length⟩ ⟨h3, h3.length⟩ = ⟨h3, h0.length⟩ := joined_mk _ _
 simp [joined_fl, hf2, wrN_at0, set_at0, one4, ↓← hh3, hmin]
 rw [← hQ]
 by_cases hk : kd = 0
 ·by_cases hl0 : left < 0
  ·simp [hk, hl0, DC_of r56, hj3, endK_ret, back, hsc]
  ·by_cases hl1 : (rl.length : Int) ≤ left
   ·simp [hk, hl0, rd_def, p3, hl1, DC_of r56, hj3, endK_ret, back, hsc]
   ·by_cases hg : (A.length : Int) = ac
    ·have hk0 : kindD n x s L = 0 := by rw [← hkd]; exact hk
     obtain ⟨hS, hPl⟩ := kind_zero hk0
     obtain ⟨G, hGe⟩ : ∃ G, G = dgOf n x s L := ⟨_, rfl⟩
     have hG : GoodG G := by rw [hGe]; exact good_of hS
     have hGn : G.n = n := by rw [hGe]; rfl
     have hGL : G.L = L := by rw [hGe]; rfl
     have hloops := hG.loops
     rw [hGL] at hloops
     have hac1 : ac = arC G + L := by rw [hac, hGe]; unfold arcW; rw [if_neg (by simp [hk0])]
     have hrl1 : rl = relL G := by rw [hrl, hGe]; unfold relW; rw [if_neg (by simp [hk0])]
     have hrn : rl.length = n := by rw [hrl1, relL_length, hGn]
     rw [← hGe] at hPl
     have hgA : arC G ≤ A.length := by omega
     obtain ⟨l0, rfl⟩ : ∃ l0 : Nat, left = l0 := ⟨left.toNat, by omega⟩
     have hl0n : l0 < n := by omega
     have hA0 : 0 < A.length := by
      have := arN_lt (G := G) (a := 0) (by omega)
      omega
     obtain ⟨N, hN⟩ : ∃ N, N = (nthR A 0).length := ⟨_, rfl⟩
     obtain rfl := ha hA0
     have hA3 := hA.sub ((s1.trans s2).trans s3)
     have hA3' := hA3
     obtain ⟨va', vb', vo', vc', vs', ev, hva', hvr3, _⟩ := hA3'
     simp only [Value.slice.injEq, Option.some.injEq] at ev
     obtain ⟨rfl, _, rfl⟩ := ev
     obtain ⟨rfl, rfl⟩ : vb = vb' ∧ vo = vo' := by have := hva' hA0; simpa using this
     have hl0' : ¬ (l0 : Int) < 0 := by omega
     simp [hk, hl0, rd_def, p3, hl1, hg]
     obtain ⟨w0, hw0, _, _⟩ : ∃ w, w = vs' 0 ∧ True ∧ True := ⟨_, rfl, trivial, trivial⟩
     obtain ⟨z1, z2, z3⟩ := hvr3 0 hA0
     obtain ⟨wa0, wb0, wo0, wc0, hz0, _, _⟩ := z2.at
     rw [← hN] at hz0
     rw [Nat.add_zero] at z1
     refine DW_loop (fun kk fr st => ∃ (i : Nat), i + kk = A.length ∧ st = ⟨h3, h0.length⟩ ∧ (∀ j, j < i → 1 ≤ (nthR A j).length ∧ (nthR A j).length ≤ 200 ∧ PermL N (nthR A j)) ∧ get fr 1 = .slice (some ⟨vb, vo, none⟩) A.length vc ∧ get fr 2 = .int .i64 l0 ∧ get fr 3 = .slice ma nums.length mc ∧ get fr 4 = .pointer (some ⟨h0.length, 0, none⟩) ∧ get fr 9 = .pointer (some ⟨Q, 0, none⟩) ∧ get fr 77 = .slice (some ⟨vb, vo, none⟩) A.length vc ∧ get fr 78 = .int .i64 A.length ∧ get fr 79 = .int .i64 i) ?_ (k := A.length) ?_
     ·rintro kk fr st ⟨i, hik, rfl, hd, g1, g2, g3, g4, g9, g77, g78, g79⟩
      by_cases hi : i < A.length
      ·have hwi : IntKind.i64.wrap ((i : Int) + 1) = (i : Int) + 1 := by rw [w64_id] <;> omega
       obtain ⟨y1, y2, y3⟩ := hvr3 i hi
       have hy2 := y2
       obtain ⟨wa, wb, wo, wc, hz, _, _⟩ := y2.at
       obtain ⟨m, hm⟩ : ∃ m, m = (nthR A i).length := ⟨_, rfl⟩
       rw [← hm] at hz
       have ip := isPermR_ hE (m := N) hy2 y3
       rw [hz] at ip y1
       rw [hz0] at z1
       by_cases k1 : m < 1
       ·have k1' : (m : Int) < 1 := by omega
        have k1'' : m = 0 := by omega
        simp [g1, g2, g3, g4, g9, g77, g78, g79, hi, rd_def, y1, k1, k1', k1'', DC_of r56, hj3, endK_ret, back, hsc]
       ·have k1' : ¬ (m : Int) < 1 := by omega
        have k1'' : ¬ m = 0 := by omega
        by_cases k2 : 200 < m
        ·have k2' : 200 < (m : Int) := by omega
         simp [g1, g2, g3, g4, g9, g77, g78, g79, hi, rd_def, y1, k1, k1', k1'', k2, k2', DC_of r56, hj3, endK_ret, back, hsc]
        ·have k2' : ¬ 200 < (m : Int) := by omega
         by_cases hp : PermL N (nthR A i)
         ·rw [decide_eq_true hp] at ip
          simp [g1, g2, g3, g4, g9, g77, g78, g79, hi, rd_def, y1, z1, k1, k1', k1'', k2, k2', hA0, DC_of ip, hj3, hwi]
          refine ⟨kk - 1, by omega, i + 1, by omega, fun j hj => ?_, by omega⟩
          by_cases e : j = i
          ·rw [e, ← hm]; exact ⟨by omega, by omega, hp⟩
          ·exact hd j (by omega)
         ·rw [decide_eq_false hp] at ip
          simp [g1, g2, g3, g4, g9, g77, g78, g79, hi, rd_def, y1, z1, k1, k1', k1'', k2, k2', hA0, DC_of ip, hj3, DC_of r56, endK_ret, back, hsc]
      ·have hir : i = A.length := by omega
       subst hir
       have hperm : ∀ k, k < A.length → PermL N (nthR A k) := fun k hk => (hd k hk).2.2
       have hN200 : 1 ≤ N ∧ N ≤ 200 := by have := hd 0 hA0; omega
       simp [g1, g2, g3, g4, g9, g77, g78, g79, rd_def, p3]
       rw [hrn]
       rw [hrn] at p3
       have hM3 := hM2.sub s3
       rw [hrn] at hM3
       obtain ⟨ra', rb', ro', rc', rvs', ev2, hra', hrr3, _⟩ := mat_at hM3
       obtain ⟨rfl, _, rfl⟩ := Value.slice.inj ev2
       have hrow : ∀ i, i < n → rdO h3[rb']? (ro' + i) = some (rvs' i) ∧ Ints h3 (rvs' i) (relOf G i) := fun i hi => by
        have := hrr3 i (by omega)
        rwa [hrl1, relL_nth (by rw [hGn]; exact hi)] at this
       have hlet : ∀ i, i < n → LetOk A.length (relOf G i) := fun i hi => relOf_let hG (by rw [hGn]; exact hi) hgA
       have hr4 : ∀ i, (relOf G i).length = 4 := fun i => rfl
       have hra2 := hra' (by omega)
       subst hra2
       clear g77 g78 g79 hik hd
       refine DW_loop (fun kk fr st => ∃ (i : Nat), i + kk = n ∧ st = ⟨h3, h0.length⟩ ∧ get fr 1 = .slice (some ⟨vb, vo, none⟩) A.length vc ∧ get fr 2 = .int .i64 l0 ∧ get fr 3 = .slice ma nums.length mc ∧ get fr 4 = .pointer (some ⟨h0.length, 0, none⟩) ∧ get fr 9 = .pointer (some ⟨Q, 0, none⟩) ∧ get fr 103 = .slice (some ⟨rb', ro', none⟩) n rc ∧ get fr 104 = .int .i64 n ∧ get fr 105 = .int .i64 i) ?_ (k := n) ?_
       ·clear g1 g2 g3 g4 g9
        rintro kk fr st ⟨i, hik, rfl, g1, g2, g3, g4, g9, g103, g104, g105⟩
        by_cases hi : i < n
        ·have hwi : IntKind.i64.wrap ((i : Int) + 1) = (i : Int) + 1 := by rw [w64_id] <;> omega
         obtain ⟨y1, y2⟩ := hrow i hi
         have hL := hlet i hi
         obtain ⟨wa, wb, wo, wc, hz, hwa, hwr⟩ := y2.at
         rw [hr4] at hz hwa hwr
         obtain rfl := hwa (by omega)
         rw [hz] at y1
         simp [g1, g2, g3, g4, g9, g103, g104, g105, hi, rd_def, y1]
         refine DW_loop (fun kk' fr st => ∃ (j : Nat), j + kk' = 4 ∧ st = ⟨h3, h0.length⟩ ∧ get fr 1 = .slice (some ⟨vb, vo, none⟩) A.length vc ∧ get fr 2 = .int .i64 l0 ∧ get fr 3 = .slice ma nums.length mc ∧ get fr 4 = .pointer (some ⟨h0.length, 0, none⟩) ∧ get fr 9 = .pointer (some ⟨Q, 0, none⟩) ∧ get fr 103 = .slice (some ⟨rb', ro', none⟩) n rc ∧ get fr 104 = .int .i64 n ∧ get fr 105 = .int .i64 i ∧ get fr 109 = .slice (some ⟨wb, wo, none⟩) 4 wc ∧ get fr 110 = .int .i64 4 ∧ get fr 111 = .int .i64 j) ?_ (k := 4) ?_
         ·clear g1 g2 g3 g4 g9 g103 g104 g105
          rintro kk' fr st ⟨j, hjk, rfl, g1, g2, g3, g4, g9, g103, g104, g105, g109, g110, g111⟩
          by_cases hj : j < 4
          ·have hwj : IntKind.i64.wrap ((j : Int) + 1) = (j : Int) + 1 := by rw [w64_id] <;> omega
           have hj' : (j : Int) < 4 := by omega
           obtain ⟨e1, e2, e3⟩ := hL j hj
           have hwn : IntKind.i64.wrap (-(nth (relOf G i) j)) = -(nth (relOf G i) j) := by rw [w64_id] <;> omega
           have e3' : ¬ ac < nth (relOf G i) j := by omega
           have e4' : ¬ ac < -(nth (relOf G i) j) := by omega
           simp [g1, g2, g3, g4, g9, g103, g104, g105, g109, g110, g111, hj, hj', rd_def, hwr j hj, e1, p3, e3', hwn, e4', hwj]
           exact ⟨kk' - 1, by omega, j + 1, by omega, by omega⟩
          ·have hj4 : j = 4 := by omega
           subst hj4
           simp [g1, g2, g3, g4, g9, g103, g104, g105, g109, g110, g111, hwi]
           exact ⟨kk - 1, by omega, i + 1, by omega, by omega⟩
         ·exact ⟨0, by omega, rfl, by simp [g1, g2, g3, g4, g9, g103, g104, g105]⟩
        ·have hin : i = n := by omega
         have hof3 := of_ hE (c := c) (L := L) hx3 hS
         simp only [dV] at hof3
         simp [g1, g2, g3, g4, g9, g103, g104, g105, hin, ↓b3, rdN_def]
         refine hof3.imp ?_
         rintro o ⟨h4, f4⟩ ⟨xs, k4, rfl, hf4, s4, hxs, hO, hk4⟩
         simp only at hf4 s4 hxs
         unfold AtB at hxs
         rw [← hGe] at hO
         have b4 := s4 _ _ b3
         have har := archesR_ hE (c := c) (L := L) (hx3.sub s4) hS
         rw [← hGe] at har
         simp only [dV] at har
         simp [joined_fl, hf4, g1, g2, g3, g4, g9, ↓b4, rdN_def]
         refine har.imp ?_
         rintro o ⟨h5, f5⟩ ⟨ab, rfl, s5, hf5, _, hab⟩
         simp only at s5 hf5 hab
         have b5 := s5 _ _ b4
         have hx5 := (hx3.sub s4).sub s5
         have hct := count_ hE (c := c) (L := L) hx5 hS
         rw [← hGe] at hct
         simp only [dV] at hct
         simp [joined_fl, hf5, g1, g2, g3, g4, g9, ↓b5, rdN_def]
         refine hct.imp ?_
         rintro o st ⟨xs', k1, hO', hk1, rfl, rfl⟩
         obtain ⟨P1, hP1⟩ : ∃ P1, P1 = h3.length + 1 := ⟨_, rfl⟩
         rw [← hP1] at hxs ⊢
         have hO2 : OrbI (2 * G.n) (nx G) (2 * G.n) k4 xs := by rw [hGn]; exact hO
         have hO2' : OrbI (2 * G.n) (nx G) (2 * G.n) k1 xs' := by rw [hGn]; exact hO'
         obtain ⟨hkk, hkk2⟩ := cp_eq hO2
         obtain ⟨hkk', hkk2'⟩ := cp_eq hO2'
         have hk41 : k1 = k4 := by rw [hkk2', hkk2]
         subst hk41
         have s35 := s4.trans s5
         have p5 := s35 _ _ p3
         have hxs5 := s5 _ _ hxs
         have hj5 : joined ⟨h5, h0.length⟩ ⟨h5, h5.length⟩ = ⟨h5, h0.length⟩ := joined_mk _ _
         have hal : (arL G).length = 2 * n := by unfold arL; rw [tabL_length, hGn]
         have hxl : xs.length = 2 * n := hO.len
         obtain ⟨M, hMn⟩ : ∃ M, M = 2 * n := ⟨_, rfl⟩
         have hM2n : 2 * (n : Int) = (M : Int) := by omega
         have hA5 := hA3.mat.sub s35
         have hA5' := hA3.mat.sub s35
         obtain ⟨va6, vb6, vo6, vc6, vs6, ev6, hva6, hvr6, _⟩ := mat_at hA5'
         obtain ⟨rfl, _, rfl⟩ := Value.slice.inj ev6
         have hva7 := hva6 hA0
         simp only [Option.some.injEq, Addr.mk.injEq, and_true] at hva7
         obtain ⟨rfl, rfl⟩ := hva7
         have hperm' : ∀ k, k < A.length → PermL (nthR A 0).length (nthR A k) := by rw [← hN]; exact hperm
         have hrow5 : ∀ i, i < n → rdO h5[rb']? (ro' + i) = some (rvs' i) ∧ Ints h5 (rvs' i) (relOf G i) := fun i hi => ⟨Ai.Sub.rdO s35 (hrow i hi).1, (hrow i hi).2.sub s35⟩
         have t56 := saneW_ hW (h0 := h5)
         have ga : ∀ i, i < M → (intsC (arL G))[i]? = some (.int .i64 (arN G i)) := fun i hi => by
          rw [intsC_get (by omega)]
          unfold arL
          rw [tabL_nth (by rw [hGn]; omega)]
         have gx : ∀ i, i < M → (intsC xs)[i]? = some (.int .i64 (nth xs i)) := fun i hi => intsC_get (by omega)
         have s05 : Sub h0 h5 := (((s1.trans s2).trans s3).trans s35)
         by_cases hnums : (k1 : Int) + L ≤ nums.length
         ·simp [hj5, g1, g2, g3, g4, g9, hnums, rd_def, p5]
          have mrd : ∀ i, i < nums.length → ∃ b o, ma = some ⟨b, o, none⟩ ∧ rdO h5[b]? (o + i) = some (.int .i64 (nth nums i)) := fun i hi => ⟨mb, mo, hma (by omega), Ai.Sub.rdO s05 (hmr i hi)⟩
          refine DW_loop (fun kk fr st => ∃ (i : Nat), i + kk = n ∧ st = ⟨h5, h0.length⟩ ∧ get fr 1 = .slice (some ⟨vb, vo, none⟩) A.length vc ∧ get fr 2 = .int .i64 l0 ∧ get fr 3 = .slice ma nums.length mc ∧ get fr 4 = .pointer (some ⟨h0.length, 0, none⟩) ∧ get fr 9 = .pointer (some ⟨Q, 0, none⟩) ∧ get fr 17 = .slice (some ⟨P1, 0, none⟩) M M ∧ get fr 18 = .slice (some ⟨ab, 0, none⟩) M M ∧ get fr 145 = .slice (some ⟨rb', ro', none⟩) n rc ∧ get fr 146 = .int .i64 n ∧ get fr 147 = .int .i64 i) ?_ (k := n) ?_
          ·clear g1 g2 g3 g4 g9 g103 g104 g105
           rintro kk fr st ⟨i, hik, rfl, g1, g2, g3, g4, g9, g17, g18, g145, g146, g147⟩
           by_cases hi : i < n
           ·have hwi : IntKind.i64.wrap ((i : Int) + 1) = (i : Int) + 1 := by rw [w64_id] <;> omega
            obtain ⟨y1, y2⟩ := hrow5 i hi
            have hLt := hlet i hi
            obtain ⟨wa, wb, wo, wc, hz, hwa, hwr⟩ := y2.at
            rw [hr4] at hz hwa hwr
            obtain rfl := hwa (by omega)
            rw [hz] at y1
            obtain ⟨val, hval⟩ : ∃ val, val = valY G xs nums := ⟨_, rfl⟩
            have hvb : ∀ y, -1000000000 ≤ val y ∧ val y ≤ 1000000000 := fun y => by rw [hval]; exact clipV_le _
            have hz0 : sumW (relOf G i) val 4 = 0 := by rw [hval]; exact sum_rel hG hO2 (by rw [hGn]; exact hi)
            simp [g1, g2, g3, g4, g9, g17, g18, g145, g146, g147, hi, rd_def, y1]
            refine DW_loop (fun kk' fr st => ∃ (j : Nat), j + kk' = 4 ∧ st = ⟨h5, h0.length⟩ ∧ get fr 1 = .slice (some ⟨vb, vo, none⟩) A.length vc ∧ get fr 2 = .int .i64 l0 ∧ get fr 3 = .slice ma nums.length mc ∧ get fr 4 = .pointer (some ⟨h0.length, 0, none⟩) ∧ get fr 9 = .pointer (some ⟨Q, 0, none⟩) ∧ get fr 17 = .slice (some ⟨P1, 0, none⟩) M M ∧ get fr 18 = .slice (some ⟨ab, 0, none⟩) M M ∧ get fr 22 = .int .i64 (sumW (relOf G i) val j) ∧ get fr 145 = .slice (some ⟨rb', ro', none⟩) n rc ∧ get fr 146 = .int .i64 n ∧ get fr 147 = .int .i64 i ∧ get fr 151 = .slice (some ⟨wb, wo, none⟩) 4 wc ∧ get fr 152 = .int .i64 4 ∧ get fr 153 = .int .i64 j) ?_ (k := 4) ?_
            ·clear g1 g2 g3 g4 g9 g17 g18 g145 g146 g147
             rintro kk' fr st ⟨j, hjk, rfl, g1, g2, g3, g4, g9, g17, g18, g22, g145, g146, g147, g151, g152, g153⟩
             by_cases hj : j < 4
             ·have hwj : IntKind.i64.wrap ((j : Int) + 1) = (j : Int) + 1 := by rw [w64_id] <;> omega
              have hj' : (j : Int) < 4 := by omega
              obtain ⟨y, hy⟩ : ∃ y, y = nth (relOf G i) j := ⟨_, rfl⟩
              obtain ⟨a1, ha1, hya⟩ := rel_arc hG (i := i) (by rw [hGn]; exact hi) hj
              rw [← hy] at hya
              obtain ⟨f0, hf0, hf1, hf2', _, hfm⟩ := arcY_at (y := y) ha1 hya
              obtain ⟨e1, e2, e3⟩ := hLt j hj
              rw [← hy] at e1 e2 e3
              have hrd := hwr j hj
              rw [← hy] at hrd
              have hrd5 := hrd
              have hsb := sumW_le (relOf G i) hvb j
              have hsn : sumW (relOf G i) val (j + 1) = if 0 < y then sumW (relOf G i) val j + val y else sumW (relOf G i) val j - val y := by rw [hy]; rfl
              have hvy := hvb y
              have hvv : val y = clipV (nth nums (nth xs f0).toNat) := by
               rw [hval]; unfold valY; rw [hf0, Int.toNat_natCast]
              have hxf := hO2.val f0 hf1
              have hxd := hO2.done f0 hf1
              obtain ⟨cm, hcm⟩ : ∃ cm : Nat, nth xs f0 = cm := ⟨(nth xs f0).toNat, by omega⟩
              have hcl : cm < nums.length := by omega
              obtain ⟨mb', mo', rfl, hmr'⟩ := mrd cm hcl
              have hmx : (if y < -y then -y else y) = max y (-y) := by split <;> omega
              have hwn : IntKind.i64.wrap (-y) = -y := by rw [w64_id] <;> omega
              have hwm : IntKind.i64.wrap (max y (-y) - 1) = max y (-y) - 1 := by rw [w64_id] <;> omega
              obtain ⟨vv, hvv2⟩ : ∃ vv, vv = nth nums cm := ⟨_, rfl⟩
              rw [hcm, Int.toNat_natCast, ← hvv2] at hvv
              rw [← hvv2] at hmr'
              simp [g1, g2, g3, g4, g9, g17, g18, g22, g145, g146, g147, g151, g152, g153, hj, hj', rd_def, hrd5]
              refine DW_loop (fun kk2 fr st => ∃ (k : Nat), k + kk2 = f0 ∧ st = ⟨h5, h0.length⟩ ∧ (∀ t, t < k → (arN G t : Int) ≠ max y (-y) - 1) ∧ get fr 1 = .slice (some ⟨vb, vo, none⟩) A.length vc ∧ get fr 2 = .int .i64 l0 ∧ get fr 3 = .slice (some ⟨mb', mo', none⟩) nums.length mc ∧ get fr 4 = .pointer (some ⟨h0.length, 0, none⟩) ∧ get fr 9 = .pointer (some ⟨Q, 0, none⟩) ∧ get fr 17 = .slice (some ⟨P1, 0, none⟩) M M ∧ get fr 18 = .slice (some ⟨ab, 0, none⟩) M M ∧ get fr 22 = .int .i64 (sumW (relOf G i) val j) ∧ get fr 24 = .int .i64 y ∧ get fr 25 = .int .i64 k ∧ get fr 145 = .slice (some ⟨rb', ro', none⟩) n rc ∧ get fr 146 = .int .i64 n ∧ get fr 147 = .int .i64 i ∧ get fr 151 = .slice (some ⟨wb, wo, none⟩) 4 wc ∧ get fr 152 = .int .i64 4 ∧ get fr 153 = .int .i64 j) ?_ (k := f0) ?_
              ·clear g1 g2 g3 g4 g9 g17 g18 g22 g145 g146 g147 g151 g152 g153
               rintro kk2 fr st ⟨k, hkk3, rfl, hd, g1, g2, g3, g4, g9, g17, g18, g22, g24, g25, g145, g146, g147, g151, g152, g153⟩
               have hkM : k < M := by omega
               have hwk : IntKind.i64.wrap ((k : Int) + 1) = (k : Int) + 1 := by rw [w64_id] <;> omega
               by_cases hkf : k < f0
               ·have hne := hfm k hkf
                simp [g1, g2, g3, g4, g9, g17, g18, g22, g24, g25, g145, g146, g147, g151, g152, g153, hkM, rd_def, ↓hab, ga k hkM, hwn, maxminV, hmx, hwm, hne, hwk]
                exact ⟨kk2 - 1, by omega, k + 1, by omega, fun t ht => (by
                 by_cases e : t = k
                 ·rw [e]; exact hne
                 ·exact hd t (by omega)), by omega⟩
               ·have hkf' : k = f0 := by omega
                subst hkf'
                have hkM' : ¬ k = M := by omega
                have hwS : IntKind.i64.wrap (sumW (relOf G i) val j) = sumW (relOf G i) val j := by rw [w64_id] <;> omega
                have hwA : IntKind.i64.wrap (sumW (relOf G i) val j + val y) = sumW (relOf G i) val j + val y := by rw [w64_id] <;> omega
                have hwB : IntKind.i64.wrap (sumW (relOf G i) val j - val y) = sumW (relOf G i) val j - val y := by rw [w64_id] <;> omega
                unfold clipV at hvv
                by_cases c1 : 1000000000 < vv
                ·rw [if_pos c1] at hvv
                 have hnx : sumW (relOf G i) val (j + 1) = sumW (relOf G i) val j := by rw [hsn, hvv]; split <;> omega
                 by_cases c3 : 0 < y
                 ·simp [g1, g2, g3, g4, g9, g17, g18, g22, g24, g25, g145, g146, g147, g151, g152, g153, hkM, hkM', rd_def, ↓hab, ga k hkM, hwn, maxminV, hmx, hwm, hf2', ↓hxs5, gx k hkM, hcm, hcl, hmr', hwj, c1, c3, hwS]
                  exact ⟨kk' - 1, by omega, j + 1, by omega, hnx.symm, by omega⟩
                 ·simp [g1, g2, g3, g4, g9, g17, g18, g22, g24, g25, g145, g146, g147, g151, g152, g153, hkM, hkM', rd_def, ↓hab, ga k hkM, hwn, maxminV, hmx, hwm, hf2', ↓hxs5, gx k hkM, hcm, hcl, hmr', hwj, c1, c3, hwS]
                  exact ⟨kk' - 1, by omega, j + 1, by omega, hnx.symm, by omega⟩
                ·rw [if_neg c1] at hvv
                 by_cases c2 : vv < -1000000000
                 ·rw [if_pos c2] at hvv
                  have hnx : sumW (relOf G i) val (j + 1) = sumW (relOf G i) val j := by rw [hsn, hvv]; split <;> omega
                  by_cases c3 : 0 < y
                  ·simp [g1, g2, g3, g4, g9, g17, g18, g22, g24, g25, g145, g146, g147, g151, g152, g153, hkM, hkM', rd_def, ↓hab, ga k hkM, hwn, maxminV, hmx, hwm, hf2', ↓hxs5, gx k hkM, hcm, hcl, hmr', hwj, c1, c2, c3, hwS]
                   exact ⟨kk' - 1, by omega, j + 1, by omega, hnx.symm, by omega⟩
                  ·simp [g1, g2, g3, g4, g9, g17, g18, g22, g24, g25, g145, g146, g147, g151, g152, g153, hkM, hkM', rd_def, ↓hab, ga k hkM, hwn, maxminV, hmx, hwm, hf2', ↓hxs5, gx k hkM, hcm, hcl, hmr', hwj, c1, c2, c3, hwS]
                   exact ⟨kk' - 1, by omega, j + 1, by omega, hnx.symm, by omega⟩
                 ·rw [if_neg c2] at hvv
                  rw [hvv] at hwA hwB hsn
                  by_cases c3 : 0 < y
                  ·rw [if_pos c3] at hsn
                   simp [g1, g2, g3, g4, g9, g17, g18, g22, g24, g25, g145, g146, g147, g151, g152, g153, hkM, hkM', rd_def, ↓hab, ga k hkM, hwn, maxminV, hmx, hwm, hf2', ↓hxs5, gx k hkM, hcm, hcl, hmr', hwj, c1, c2, c3, hwA]
                   exact ⟨kk' - 1, by omega, j + 1, by omega, hsn.symm, by omega⟩
                  ·rw [if_neg c3] at hsn
                   simp [g1, g2, g3, g4, g9, g17, g18, g22, g24, g25, g145, g146, g147, g151, g152, g153, hkM, hkM', rd_def, ↓hab, ga k hkM, hwn, maxminV, hmx, hwm, hf2', ↓hxs5, gx k hkM, hcm, hcl, hmr', hwj, c1, c2, c3, hwB]
                   exact ⟨kk' - 1, by omega, j + 1, by omega, hsn.symm, by omega⟩
              ·exact ⟨0, by omega, rfl, fun t ht => by omega, by simp [g1, g2, g3, g4, g9, g17, g18, g22, g145, g146, g147, g151, g152, g153]⟩
             ·have hj4 : j = 4 := by omega
              subst hj4
              rw [hz0] at g22
              simp [g1, g2, g3, g4, g9, g17, g18, g22, g145, g146, g147, g151, g152, g153, hwi]
              exact ⟨kk - 1, by omega, i + 1, by omega, by omega⟩
            ·exact ⟨0, by omega, rfl, by simp [g1, g2, g3, g4, g9, g17, g18, g145, g146, g147, sumW]⟩
           ·have hin3 : i = n := by omega
            simp [g1, g2, g3, g4, g9, g17, g18, g145, g146, g147, hin3, rd_def, p5]
            have g1' := g1
            have g2' := g2
            have g4' := g4
            have g9' := g9
            have g17' := g17
            have g18' := g18
            clear g1 g2 g3 g4 g9 g17 g18 g145 g146 g147
            refine DW_loop (fun kk fr st => ∃ (i : Nat), i + kk = n ∧ st = ⟨h5, h0.length⟩ ∧ (∀ j, j < i → j ≠ l0 → TrivL A (invA A) (relOf G j) N) ∧ get fr 1 = .slice (some ⟨vb, vo, none⟩) A.length vc ∧ get fr 2 = .int .i64 l0 ∧ get fr 4 = .pointer (some ⟨h0.length, 0, none⟩) ∧ get fr 9 = .pointer (some ⟨Q, 0, none⟩) ∧ get fr 17 = .slice (some ⟨P1, 0, none⟩) M M ∧ get fr 18 = .slice (some ⟨ab, 0, none⟩) M M ∧ get fr 205 = .slice (some ⟨rb', ro', none⟩) n rc ∧ get fr 206 = .int .i64 n ∧ get fr 207 = .int .i64 i) ?_ (k := n) ?_
            ·rintro kk fr st ⟨i, hik, rfl, hd, g1, g2, g4, g9, g17, g18, g205, g206, g207⟩
             by_cases hi : i < n
             ·have hwi : IntKind.i64.wrap ((i : Int) + 1) = (i : Int) + 1 := by rw [w64_id] <;> omega
              obtain ⟨y1, y2⟩ := hrow5 i hi
              by_cases he : i = l0
              ·subst he
               simp [g1, g2, g4, g9, g17, g18, g205, g206, g207, hi, rd_def, y1, hwi]
               exact ⟨kk - 1, by omega, i + 1, by omega, fun j hj hne => hd j (by omega) hne, by omega⟩
              ·have he' : ¬ (i : Int) = l0 := by omega
               have ht := trivialR_ hE hA5 y2 hperm' (hlet i hi) (by rw [← hN]; omega)
               rw [← hN] at ht
               by_cases ct : TrivL A (invA A) (relOf G i) N
               ·rw [decide_eq_true (.inr ct)] at ht
                simp [g1, g2, g4, g9, g17, g18, g205, g206, g207, hi, rd_def, y1, he, he', DC_of ht, hj5, hwi]
                refine ⟨kk - 1, by omega, i + 1, by omega, fun j hj hne => ?_, by omega⟩
                by_cases e : j = i
                ·rw [e]; exact ct
                ·exact hd j (by omega) hne
               ·rw [decide_eq_false (fun h => h.elim (fun h0 => by omega) ct)] at ht
                simp [g1, g2, g4, g9, g17, g18, g205, g206, g207, hi, rd_def, y1, he, he', DC_of ht, hj5, hwi, DC_of t56, endK_ret, back, hsc]
             ·have hin2 : i = n := by omega
              have hall : ∀ j, j < G.n → j ≠ l0 → TrivL A (invA A) (relOf G j) N := fun j hj hne => hd j (by omega) hne
              have hleft := redundant hG hPl hgA hperm (by rw [hGn]; exact hl0n) hall
              have hhom : ∀ j, j < G.n → TrivL A (invA A) (relOf G j) N := fun j hj => by
               by_cases e : j = l0
               ·rw [e]; exact hleft
               ·exact hall j hj e
              obtain ⟨y1, y2⟩ := hrow5 l0 hl0n
              have ht := trivialR_ hE hA5 y2 hperm' (hlet l0 hl0n) (by rw [← hN]; omega)
              rw [← hN, decide_eq_true (.inr hleft)] at ht
              have hck := checkW_ hE (c := c) (L := L) hx5 hA5 hrows
              have hcz : (if kindD n x s L ≠ 0 then kindD n x s L else checkD (dgOf n x s L) A) = 0 := by
               rw [if_neg (by simp [hk0]), ← hGe]
               unfold checkD
               rw [if_pos (by rw [hg, hac1, hGL]), if_pos, if_pos]
               ·intro i hi; rw [← hN]; exact hhom i hi
               ·intro i hi
                have := hperm i hi
                refine ⟨by rw [this.len, hN], ?_⟩
                unfold PermB
                rw [this.len]
                exact ⟨this, hN200⟩
              rw [hcz] at hck
              simp only [dV] at hck
              simp [g1, g2, g4, g9, g17, g18, g205, g206, g207, hin2, rd_def, p5, hl0n, y1, DC_of ht, hj5, ↓b5, rdN_def, DC_of hck]
              have k1' := g1
              have k17' := g17
              have k18' := g18
              clear g1 g2 g4 g9 g17 g18 g205 g206 g207
              refine DW_loop (fun kk fr st => ∃ (i : Nat), i + kk = M ∧ st = ⟨h5, h0.length⟩ ∧ get fr 1 = .slice (some ⟨vb, vo, none⟩) A.length vc ∧ get fr 17 = .slice (some ⟨P1, 0, none⟩) M M ∧ get fr 18 = .slice (some ⟨ab, 0, none⟩) M M ∧ get fr 237 = .slice (some ⟨ab, 0, none⟩) M M ∧ get fr 238 = .int .i64 M ∧ get fr 239 = .int .i64 i) ?_ (k := M) ?_
              ·rintro kk fr st ⟨i, hik, rfl, g1, g17, g18, g237, g238, g239⟩
               by_cases hi : i < M
               ·have hwi : IntKind.i64.wrap ((i : Int) + 1) = (i : Int) + 1 := by rw [w64_id] <;> omega
                simp [g1, g17, g18, g237, g238, g239, hi]
                refine DW_loop (fun kk' fr st => ∃ (j : Nat), j + kk' = M ∧ st = ⟨h5, h0.length⟩ ∧ get fr 1 = .slice (some ⟨vb, vo, none⟩) A.length vc ∧ get fr 17 = .slice (some ⟨P1, 0, none⟩) M M ∧ get fr 18 = .slice (some ⟨ab, 0, none⟩) M M ∧ get fr 29 = .int .i64 i ∧ get fr 237 = .slice (some ⟨ab, 0, none⟩) M M ∧ get fr 238 = .int .i64 M ∧ get fr 239 = .int .i64 i ∧ get fr 242 = .slice (some ⟨ab, 0, none⟩) M M ∧ get fr 243 = .int .i64 M ∧ get fr 244 = .int .i64 j) ?_ (k := M) ?_
                ·clear g1 g17 g18 g237 g238 g239
                 rintro kk' fr st ⟨j, hjk, rfl, g1, g17, g18, g29, g237, g238, g239, g242, g243, g244⟩
                 by_cases hj : j < M
                 ·have hwj : IntKind.i64.wrap ((j : Int) + 1) = (j : Int) + 1 := by rw [w64_id] <;> omega
                  by_cases hce : nth xs i = nth xs j
                  ·have hi2 : i < 2 * G.n := by omega
                   have hj2 : j < 2 * G.n := by omega
                   have hso := (hO2.rel i j hi2 hj2 (hO2.done i hi2)).1 hce
                   have hai := arN_lt (G := G) hi2
                   have haj := arN_lt (G := G) hj2
                   have hfx := fix_orbit hG (N := N) (A := A) (fun c hc => (triv_S hperm (rel_mem hG hc hgA)).1 (hhom c hc)) hi2 hso
                   unfold labS at hfx
                   rw [← fixR_S (hperm _ (by omega)), ← fixR_S (hperm _ (by omega))] at hfx
                   obtain ⟨u1, u2⟩ := hvr6 (arN G i) (by omega)
                   obtain ⟨w1, w2⟩ := hvr6 (arN G j) (by omega)
                   have pl1 := (hperm (arN G i) (by omega)).len
                   have pl2 := (hperm (arN G j) (by omega)).len
                   have fi := fixed_ hE u2 (by omega)
                   have fj := fixed_ hE w2 (by omega)
                   rw [hfx] at fj
                   have hai' : arN G i < A.length := by omega
                   have haj' : arN G j < A.length := by omega
                   simp [g1, g17, g18, g29, g237, g238, g239, g242, g243, g244, hi, hj, rd_def, ↓hxs5, ↓hab, gx i hi, gx j hj, ga i hi, ga j hj, hce, hai', haj', u1, w1, DC_of fi, DC_of fj, hj5, hwj, bit]
                   exact ⟨kk' - 1, by omega, j + 1, by omega, by omega⟩
                  ·simp [g1, g17, g18, g29, g237, g238, g239, g242, g243, g244, hi, hj, rd_def, ↓hxs5, ↓hab, gx i hi, gx j hj, hce, hwj, bit]
                   exact ⟨kk' - 1, by omega, j + 1, by omega, by omega⟩
                 ·have hjm : j = M := by omega
                  simp [g1, g17, g18, g29, g237, g238, g239, g242, g243, g244, hjm, hwi]
                  exact ⟨kk - 1, by omega, i + 1, by omega, by omega⟩
                ·exact ⟨0, by omega, rfl, by simp [g1, g17, g18, g237, g238, g239]⟩
               ·have him : i = M := by omega
                simp [g1, g17, g18, g237, g238, g239, him, DC_of t56, hj5, endK_ret, back, hsc]
              ·exact ⟨0, by omega, rfl, by simp [k1', k17', k18']⟩
            ·exact ⟨0, by omega, rfl, fun j hj => by omega, by simp [g1', g2', g4', g9', g17', g18', hMn]⟩
          ·exact ⟨0, by omega, rfl, by simp [g1, g2, g3, g4, g9, hMn]⟩
         ·simp [hj5, g1, g2, g3, g4, g9, hnums, rd_def, p5]
          have g1' := g1
          have g2' := g2
          have g4' := g4
          have g9' := g9
          clear g1 g2 g3 g4 g9 g103 g104 g105
          refine DW_loop (fun kk fr st => ∃ (i : Nat), i + kk = n ∧ st = ⟨h5, h0.length⟩ ∧ (∀ j, j < i → j ≠ l0 → TrivL A (invA A) (relOf G j) N) ∧ get fr 1 = .slice (some ⟨vb, vo, none⟩) A.length vc ∧ get fr 2 = .int .i64 l0 ∧ get fr 4 = .pointer (some ⟨h0.length, 0, none⟩) ∧ get fr 9 = .pointer (some ⟨Q, 0, none⟩) ∧ get fr 17 = .slice (some ⟨P1, 0, none⟩) M M ∧ get fr 18 = .slice (some ⟨ab, 0, none⟩) M M ∧ get fr 205 = .slice (some ⟨rb', ro', none⟩) n rc ∧ get fr 206 = .int .i64 n ∧ get fr 207 = .int .i64 i) ?_ (k := n) ?_
          ·rintro kk fr st ⟨i, hik, rfl, hd, g1, g2, g4, g9, g17, g18, g205, g206, g207⟩
           by_cases hi : i < n
           ·have hwi : IntKind.i64.wrap ((i : Int) + 1) = (i : Int) + 1 := by rw [w64_id] <;> omega
            obtain ⟨y1, y2⟩ := hrow5 i hi
            by_cases he : i = l0
            ·subst he
             simp [g1, g2, g4, g9, g17, g18, g205, g206, g207, hi, rd_def, y1, hwi]
             exact ⟨kk - 1, by omega, i + 1, by omega, fun j hj hne => hd j (by omega) hne, by omega⟩
            ·have he' : ¬ (i : Int) = l0 := by omega
             have ht := trivialR_ hE hA5 y2 hperm' (hlet i hi) (by rw [← hN]; omega)
             rw [← hN] at ht
             by_cases ct : TrivL A (invA A) (relOf G i) N
             ·rw [decide_eq_true (.inr ct)] at ht
              simp [g1, g2, g4, g9, g17, g18, g205, g206, g207, hi, rd_def, y1, he, he', DC_of ht, hj5, hwi]
              refine ⟨kk - 1, by omega, i + 1, by omega, fun j hj hne => ?_, by omega⟩
              by_cases e : j = i
              ·rw [e]; exact ct
              ·exact hd j (by omega) hne
             ·rw [decide_eq_false (fun h => h.elim (fun h0 => by omega) ct)] at ht
              simp [g1, g2, g4, g9, g17, g18, g205, g206, g207, hi, rd_def, y1, he, he', DC_of ht, hj5, hwi, DC_of t56, endK_ret, back, hsc]
           ·have hin2 : i = n := by omega
            have hall : ∀ j, j < G.n → j ≠ l0 → TrivL A (invA A) (relOf G j) N := fun j hj hne => hd j (by omega) hne
            have hleft := redundant hG hPl hgA hperm (by rw [hGn]; exact hl0n) hall
            have hhom : ∀ j, j < G.n → TrivL A (invA A) (relOf G j) N := fun j hj => by
             by_cases e : j = l0
             ·rw [e]; exact hleft
             ·exact hall j hj e
            obtain ⟨y1, y2⟩ := hrow5 l0 hl0n
            have ht := trivialR_ hE hA5 y2 hperm' (hlet l0 hl0n) (by rw [← hN]; omega)
            rw [← hN, decide_eq_true (.inr hleft)] at ht
            have hck := checkW_ hE (c := c) (L := L) hx5 hA5 hrows
            have hcz : (if kindD n x s L ≠ 0 then kindD n x s L else checkD (dgOf n x s L) A) = 0 := by
             rw [if_neg (by simp [hk0]), ← hGe]
             unfold checkD
             rw [if_pos (by rw [hg, hac1, hGL]), if_pos, if_pos]
             ·intro i hi; rw [← hN]; exact hhom i hi
             ·intro i hi
              have := hperm i hi
              refine ⟨by rw [this.len, hN], ?_⟩
              unfold PermB
              rw [this.len]
              exact ⟨this, hN200⟩
            rw [hcz] at hck
            simp only [dV] at hck
            simp [g1, g2, g4, g9, g17, g18, g205, g206, g207, hin2, rd_def, p5, hl0n, y1, DC_of ht, hj5, ↓b5, rdN_def, DC_of hck]
            have k1' := g1
            have k17' := g17
            have k18' := g18
            clear g1 g2 g4 g9 g17 g18 g205 g206 g207
            refine DW_loop (fun kk fr st => ∃ (i : Nat), i + kk = M ∧ st = ⟨h5, h0.length⟩ ∧ get fr 1 = .slice (some ⟨vb, vo, none⟩) A.length vc ∧ get fr 17 = .slice (some ⟨P1, 0, none⟩) M M ∧ get fr 18 = .slice (some ⟨ab, 0, none⟩) M M ∧ get fr 237 = .slice (some ⟨ab, 0, none⟩) M M ∧ get fr 238 = .int .i64 M ∧ get fr 239 = .int .i64 i) ?_ (k := M) ?_
            ·rintro kk fr st ⟨i, hik, rfl, g1, g17, g18, g237, g238, g239⟩
             by_cases hi : i < M
             ·have hwi : IntKind.i64.wrap ((i : Int) + 1) = (i : Int) + 1 := by rw [w64_id] <;> omega
              simp [g1, g17, g18, g237, g238, g239, hi]
              refine DW_loop (fun kk' fr st => ∃ (j : Nat), j + kk' = M ∧ st = ⟨h5, h0.length⟩ ∧ get fr 1 = .slice (some ⟨vb, vo, none⟩) A.length vc ∧ get fr 17 = .slice (some ⟨P1, 0, none⟩) M M ∧ get fr 18 = .slice (some ⟨ab, 0, none⟩) M M ∧ get fr 29 = .int .i64 i ∧ get fr 237 = .slice (some ⟨ab, 0, none⟩) M M ∧ get fr 238 = .int .i64 M ∧ get fr 239 = .int .i64 i ∧ get fr 242 = .slice (some ⟨ab, 0, none⟩) M M ∧ get fr 243 = .int .i64 M ∧ get fr 244 = .int .i64 j) ?_ (k := M) ?_
              ·clear g1 g17 g18 g237 g238 g239
               rintro kk' fr st ⟨j, hjk, rfl, g1, g17, g18, g29, g237, g238, g239, g242, g243, g244⟩
               by_cases hj : j < M
               ·have hwj : IntKind.i64.wrap ((j : Int) + 1) = (j : Int) + 1 := by rw [w64_id] <;> omega
                by_cases hce : nth xs i = nth xs j
                ·have hi2 : i < 2 * G.n := by omega
                 have hj2 : j < 2 * G.n := by omega
                 have hso := (hO2.rel i j hi2 hj2 (hO2.done i hi2)).1 hce
                 have hai := arN_lt (G := G) hi2
                 have haj := arN_lt (G := G) hj2
                 have hfx := fix_orbit hG (N := N) (A := A) (fun c hc => (triv_S hperm (rel_mem hG hc hgA)).1 (hhom c hc)) hi2 hso
                 unfold labS at hfx
                 rw [← fixR_S (hperm _ (by omega)), ← fixR_S (hperm _ (by omega))] at hfx
                 obtain ⟨u1, u2⟩ := hvr6 (arN G i) (by omega)
                 obtain ⟨w1, w2⟩ := hvr6 (arN G j) (by omega)
                 have pl1 := (hperm (arN G i) (by omega)).len
                 have pl2 := (hperm (arN G j) (by omega)).len
                 have fi := fixed_ hE u2 (by omega)
                 have fj := fixed_ hE w2 (by omega)
                 rw [hfx] at fj
                 have hai' : arN G i < A.length := by omega
                 have haj' : arN G j < A.length := by omega
                 simp [g1, g17, g18, g29, g237, g238, g239, g242, g243, g244, hi, hj, rd_def, ↓hxs5, ↓hab, gx i hi, gx j hj, ga i hi, ga j hj, hce, hai', haj', u1, w1, DC_of fi, DC_of fj, hj5, hwj, bit]
                 exact ⟨kk' - 1, by omega, j + 1, by omega, by omega⟩
                ·simp [g1, g17, g18, g29, g237, g238, g239, g242, g243, g244, hi, hj, rd_def, ↓hxs5, ↓hab, gx i hi, gx j hj, hce, hwj, bit]
                 exact ⟨kk' - 1, by omega, j + 1, by omega, by omega⟩
               ·have hjm : j = M := by omega
                simp [g1, g17, g18, g29, g237, g238, g239, g242, g243, g244, hjm, hwi]
                exact ⟨kk - 1, by omega, i + 1, by omega, by omega⟩
              ·exact ⟨0, by omega, rfl, by simp [g1, g17, g18, g237, g238, g239]⟩
             ·have him : i = M := by omega
              simp [g1, g17, g18, g237, g238, g239, him, DC_of t56, hj5, endK_ret, back, hsc]
            ·exact ⟨0, by omega, rfl, by simp [k1', k17', k18']⟩
          ·exact ⟨0, by omega, rfl, fun j hj => by omega, by simp [g1', g2', g4', g9', hMn]⟩
       ·exact ⟨0, by omega, rfl, by simp [g1, g2, g3, g4, g9]⟩
     ·exact ⟨0, by omega, rfl, fun j hj => by omega, by simp [hg]⟩
    ·simp [hk, hl0, rd_def, p3, hl1, hg, DC_of r56, hj3, endK_ret, back, hsc]
 ·simp [hk, DC_of r56, hj3, ↓b3, rdN_def, DC_of q58, endK_ret, back, hsc]
end Go.Proofs.Ytjlkndkedknocaa
