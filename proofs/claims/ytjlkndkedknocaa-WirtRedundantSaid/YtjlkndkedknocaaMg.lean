/- Texts that were built one by one: Wr4, Wr5, Wr6, Wr1, Wr2, Ra1, Ra2, Ra3, Ra4, Ra5, Ra6, Ra7, Ra8, Ra9, Ra10, Ra11, RaC, Wr3, Wc3, Wr7. -/
import Derived.Test.YtjlkndkedknocaaMf
set_option linter.unusedSimpArgs false
set_option linter.unusedVariables false
namespace Go.Proofs.Ytjlkndkedknocaa
open Go Go.Ai
attribute [local instance] Classical.propDecidable
variable {E : Env} (hE : OE E)
include hE
theorem actR_ {h : List O} {va vw : Value} {A : List (List Int)} {w : List Int} {n p : Nat} (hA : Mat h va A) (hw : Ints h vw w) (hP : ∀ k, k < A.length → PermL n (nthR A k)) (hL : LetOk A.length w) (hs : A.length ≤ 100000 ∧ n ≤ 100000) (hp : p < n) :
  DR E 72 [va, vw, .int .i64 p] ⟨h, h.length⟩ (.ret (.int .i64 (actW A (invA A) w p))) ⟨h, h.length⟩ := by
 refine hE.fn (body := rb72) rfl ?_
 unfold rb72
 obtain ⟨aa, ab, ao, ac, avs, rfl, ha, har⟩ := hA.at
 obtain ⟨wa, wb, wo, wc, rfl, hwa, hwr⟩ := hw.at
 have hwlen : w.length < 2 ^ 62 := by obtain ⟨_, _, _, _, _, _, _, _, h5⟩ := hw; exact h5
 have rA : RowsOk n A := fun k hk => ⟨(hP k hk).len, (hP k hk).rng⟩
 have rB : RowsOk n (invA A) := fun k hk => by
  rw [invA_length] at hk
  rw [invA_at hk]
  exact ⟨(hP k hk).inv.len, (hP k hk).inv.rng⟩
 simp
 refine DW_loop (fun kk fr st => ∃ (j : Nat), j + kk = w.length ∧ st = ⟨h, h.length⟩ ∧ get fr 0 = .slice aa A.length ac ∧ get fr 2 = .int .i64 (actN A (invA A) w p j) ∧ get fr 10 = .slice wa w.length wc ∧ get fr 11 = .int .i64 w.length ∧ get fr 12 = .int .i64 j) ?_ (k := w.length) ?_
 ·rintro kk fr st ⟨j, hjk, rfl, g0, g2, g10, g11, g12⟩
  by_cases hj : j < w.length
  ·have hwj : IntKind.i64.wrap ((j : Int) + 1) = (j : Int) + 1 := by rw [w64_id] <;> omega
   obtain rfl := hwa (by omega)
   have hin := actN_in rA rB hL (invA_length A) (p := (p : Int)) (by omega) j (by omega)
   obtain ⟨q, hq⟩ : ∃ q : Nat, actN A (invA A) w p j = q := ⟨(actN A (invA A) w p j).toNat, by omega⟩
   have hlt := hL j hj
   rw [hq] at g2 hin
   by_cases hpos : 0 < nth w j
   ·obtain ⟨y, hy⟩ : ∃ y : Nat, nth w j - 1 = y := ⟨(nth w j - 1).toNat, by omega⟩
    have hwy : IntKind.i64.wrap (nth w j - 1) = y := by rw [w64_id] <;> omega
    have hyl : y < A.length := by omega
    obtain rfl := ha (by omega)
    obtain ⟨r1, r2⟩ := har y hyl
    have hrow := rA y hyl
    obtain ⟨ra, rb, ro, rc, hrv, hra, hrr⟩ := r2.at
    obtain rfl := hra (by omega)
    have hpl : q < (nthR A y).length := by omega
    rw [hrv] at r1
    have hnext : actN A (invA A) w p (j + 1) = nth (nthR A y) q := by
     simp only [actN, actL, hq]
     rw [if_pos hpos, hy]
     simp
    simp [g0, g2, g10, g11, g12, hj, rd_def, hwr j hj, hpos, hwy, hyl, r1, hpl, hrr q hpl, hwj]
    exact ⟨kk - 1, by omega, j + 1, by omega, hnext.symm, by omega⟩
   ·obtain ⟨y, hy⟩ : ∃ y : Nat, -nth w j - 1 = y := ⟨(-nth w j - 1).toNat, by omega⟩
    have hwn : IntKind.i64.wrap (-nth w j) = -nth w j := by rw [w64_id] <;> omega
    have hwy : IntKind.i64.wrap (-nth w j - 1) = y := by rw [w64_id] <;> omega
    have hyl : y < A.length := by omega
    obtain rfl := ha (by omega)
    obtain ⟨r1, r2⟩ := har y hyl
    have hrow := hP y hyl
    have hrl := hrow.len
    obtain ⟨ra, rb, ro, rc, hrv, hra, hrr⟩ := r2.at
    obtain rfl := hra (by omega)
    rw [hrv] at r1
    obtain ⟨i0, hi0, hi1⟩ := hrow.onto (v := q) (by omega)
    have hnext : actN A (invA A) w p (j + 1) = i0 := by
     simp only [actN, actL, hq]
     rw [if_neg hpos, hy]
     have := invL_at hrow hi0
     rw [hi1] at this
     rw [Int.toNat_natCast, invA_at hyl]
     exact this
    simp [g0, g2, g10, g11, g12, hj, rd_def, hwr j hj, hpos, hwj]
    refine DW_loop (fun kk' fr st => ∃ (k : Nat), k + kk' = i0 ∧ st = ⟨h, h.length⟩ ∧ get fr 0 = .slice (some ⟨ab, ao, none⟩) A.length ac ∧ get fr 2 = .int .i64 q ∧ get fr 8 = .int .i64 (nth w j) ∧ get fr 9 = .int .i64 k ∧ get fr 10 = .slice (some ⟨wb, wo, none⟩) w.length wc ∧ get fr 11 = .int .i64 w.length ∧ get fr 12 = .int .i64 j) ?_ (k := i0) ?_
    ·clear g0 g2 g10 g11 g12
     rintro kk' fr st ⟨k, hkk, rfl, g0, g2, g8, g9, g10, g11, g12⟩
     have hkl : k < (nthR A y).length := by omega
     have hwk : IntKind.i64.wrap ((k : Int) + 1) = (k : Int) + 1 := by rw [w64_id] <;> omega
     by_cases hk : k = i0
     ·subst hk
      simp [g0, g2, g8, g9, g10, g11, g12, rd_def, hwn, hwy, hyl, r1, hkl, hrr k hkl, hi1, hwj]
      exact ⟨kk - 1, by omega, j + 1, by omega, hnext.symm, by omega⟩
     ·have hne : ¬ nth (nthR A y) k = (q : Int) := fun e => by
       have := hrow.inj k i0 (by omega) hi0
       rw [e, hi1] at this
       exact this rfl
      simp [g0, g2, g8, g9, g10, g11, g12, rd_def, hwn, hwy, hyl, r1, hkl, hrr k hkl, hne, hwk]
      exact ⟨kk' - 1, by omega, k + 1, by omega, by omega⟩
    ·simp [g0, g2, g10, g11, g12]
  ·have hjw : j = w.length := by omega
   subst hjw
   simp [g0, g2, g10, g11, g12, endK_ret, ← actW_eq]
 ·exact ⟨0, by omega, rfl, by simp [actN]⟩
theorem trivialR_ {h : List O} {va vw : Value} {A : List (List Int)} {w : List Int} (hA : Mat h va A) (hw : Ints h vw w) (hP : ∀ k, k < A.length → PermL (nthR A 0).length (nthR A k)) (hL : LetOk A.length w) (hs : A.length ≤ 100000 ∧ (nthR A 0).length ≤ 100000) :
  DR E 66 [va, vw] ⟨h, h.length⟩ (.ret (.bool (decide (A.length = 0 ∨ TrivL A (invA A) w (nthR A 0).length)))) ⟨h, h.length⟩ := by
 refine hE.fn (body := rb66) rfl ?_
 unfold rb66
 have hA' := hA
 obtain ⟨aa, ab, ao, ac, avs, rfl, ha, har⟩ := hA'.at
 have hsc : ∀ b : Bool, (Out.ret (.bool b)).scalar = true := fun _ => rfl
 rcases Nat.eq_zero_or_pos A.length with h0 | h0
 ·have h0' : (A.length : Int) = 0 := by omega
  simp [h0, h0', endK_ret, back, hsc]
 ·have h0' : ¬ (A.length : Int) = 0 := by omega
  have h0n : ¬ A.length = 0 := by omega
  have h0i : (0 : Int) < A.length := by omega
  obtain rfl := ha h0
  obtain ⟨r1, r2⟩ := har 0 h0
  obtain ⟨ra, rb, ro, rc, hrv, hra, hrr⟩ := r2.at
  rw [hrv, Nat.add_zero] at r1
  obtain ⟨n, hn⟩ : ∃ n, n = (nthR A 0).length := ⟨_, rfl⟩
  rw [← hn] at hs hP r1 ⊢
  simp [h0', h0n, h0i, rd_def, r1, h0]
  refine DW_loop (fun kk fr st => ∃ (i : Nat), i + kk = n ∧ st = ⟨h, h.length⟩ ∧ (∀ j : Nat, j < i → actW A (invA A) w j = j) ∧ get fr 0 = .slice (some ⟨ab, ao, none⟩) A.length ac ∧ get fr 1 = vw ∧ get fr 12 = .int .i64 n ∧ get fr 13 = .int .i64 i) ?_ (k := n) ?_
  ·rintro kk fr st ⟨i, hik, rfl, hd, g0, g1, g12, g13⟩
   by_cases hi : i < n
   ·have hwi : IntKind.i64.wrap ((i : Int) + 1) = (i : Int) + 1 := by rw [w64_id] <;> omega
    have hac := actR_ hE hA hw hP hL hs hi
    by_cases he : actW A (invA A) w i = i
    ·rw [he] at hac
     simp [g0, g1, g12, g13, hi, DC_of hac, hwi]
     refine ⟨kk - 1, by omega, i + 1, by omega, fun j hj => ?_, by omega⟩
     by_cases e : j = i
     ·rw [e]; exact he
     ·exact hd j (by omega)
    ·have hnt : ¬ TrivL A (invA A) w n := fun ht => he (ht i hi)
     simp [g0, g1, g12, g13, hi, DC_of hac, he, hnt, endK_ret, back, hsc]
   ·have hin : i = n := by omega
    have ht : TrivL A (invA A) w n := fun j hj => hd j (by omega)
    simp [g0, g1, g12, g13, hin, ht, endK_ret, back, hsc]
  ·exact ⟨0, by omega, rfl, fun j hj => by omega, by simp⟩
end Go.Proofs.Ytjlkndkedknocaa
namespace Go.Proofs.Ytjlkndkedknocaa
open Go Go.Ai
attribute [local instance] Classical.propDecidable
variable {E : Env} (hE : OE E)
include hE
end Go.Proofs.Ytjlkndkedknocaa
namespace Go.Ai
theorem slice_hi {h : List O} {b o n c i : Nat} (ht : tagOk h 1 b = true) (hi : i ≤ c) : sliceV h 1 (.slice (some ⟨b, o, none⟩) n c) none (some (.int .i64 i)) none = some (.slice (some ⟨b, o, none⟩) i c) := by
 have h1 : (i : Int) ≤ c := by omega
 simp [sliceV, mxB, hiB, loB, bound, sliceA, ht, h1, hi]
def PartI (h : List O) (v : Value) : Prop := ∃ a n c, v = .slice a n c ∧ n ≤ c ∧ ∀ b o, a = some ⟨b, o, none⟩ → tagOk h 1 b = true
end Go.Ai
namespace Go.Proofs.Ytjlkndkedknocaa
open Go Go.Ai
attribute [local instance] Classical.propDecidable
variable {E : Env} (hE : OE E)
include hE
theorem isPermR_ {h : List O} {v : Value} {f : List Int} {m : Nat} (hv : Ints h v f) (hp : PartI h v) :
  DR E 64 [v, .int .i64 m] ⟨h, h.length⟩ (.ret (.bool (decide (PermL m f)))) ⟨h, h.length⟩ := by
 refine hE.fn (body := rb64) rfl ?_
 unfold rb64
 have hfl : f.length < 2 ^ 62 := by obtain ⟨_, _, _, _, _, _, _, _, h5⟩ := hv; exact h5
 obtain ⟨a, b, o, c, rfl, ha, hr⟩ := hv.at
 obtain ⟨a', n', c', e, hnc, htag⟩ := hp
 obtain ⟨rfl, rfl, rfl⟩ := Value.slice.inj e
 have hsc : ∀ b : Bool, (Out.ret (.bool b)).scalar = true := fun _ => rfl
 obtain ⟨bb, hbb⟩ : ∃ bb, bb = decide (PermL m f) := ⟨_, rfl⟩
 rw [← hbb]
 by_cases hl : f.length = m
 ·have hl' : (f.length : Int) = m := by omega
  simp [hl']
  refine DW_loop (fun kk fr st => ∃ (i : Nat), i + kk = m ∧ st = ⟨h, h.length⟩ ∧ (∀ j, j < i → 0 ≤ nth f j ∧ nth f j < m) ∧ (∀ u w, u < w → w < i → nth f u ≠ nth f w) ∧ get fr 0 = .slice a f.length c ∧ get fr 1 = .int .i64 m ∧ get fr 13 = .slice a f.length c ∧ get fr 14 = .int .i64 m ∧ get fr 15 = .int .i64 i) ?_ (k := m) ?_
  ·rintro kk fr st ⟨i, hik, rfl, hd, hinj, g0, g1, g13, g14, g15⟩
   by_cases hi : i < m
   ·have hwi : IntKind.i64.wrap ((i : Int) + 1) = (i : Int) + 1 := by rw [w64_id] <;> omega
    have hif : i < f.length := by omega
    obtain rfl := ha (by omega)
    have ht := htag b o rfl
    have hsl := slice_hi (n := f.length) (o := o) (c := c) (i := i) ht (by omega)
    by_cases h1 : nth f i < 0
    ·have hn : ¬ PermL m f := fun hp => by have := (hp.rng i hif).1; omega
     rw [decide_eq_false hn] at hbb
     subst hbb
     simp [g0, g1, g13, g14, g15, hi, hif, rd_def, hr i hif, h1, endK_ret, back, hsc]
    ·by_cases h2 : (m : Int) ≤ nth f i
     ·have hn : ¬ PermL m f := fun hp => by have := (hp.rng i hif).2; omega
      rw [decide_eq_false hn] at hbb
      subst hbb
      simp [g0, g1, g13, g14, g15, hi, hif, rd_def, hr i hif, h1, h2, endK_ret, back, hsc]
     ·simp [g0, g1, g13, g14, g15, hi, hif, rd_def, hr i hif, h1, h2, hsl]
      refine DW_loop (fun kk' fr st => ∃ (j : Nat), j + kk' = i ∧ st = ⟨h, h.length⟩ ∧ (∀ u, u < j → nth f u ≠ nth f i) ∧ get fr 0 = .slice (some ⟨b, o, none⟩) f.length c ∧ get fr 1 = .int .i64 m ∧ get fr 6 = .int .i64 (nth f i) ∧ get fr 13 = .slice (some ⟨b, o, none⟩) f.length c ∧ get fr 14 = .int .i64 m ∧ get fr 15 = .int .i64 i ∧ get fr 29 = .slice (some ⟨b, o, none⟩) i c ∧ get fr 30 = .int .i64 i ∧ get fr 31 = .int .i64 j) ?_ (k := i) ?_
      ·clear g0 g1 g13 g14 g15
       rintro kk' fr st ⟨j, hjk, rfl, hd2, g0, g1, g6, g13, g14, g15, g29, g30, g31⟩
       by_cases hj : j < i
       ·have hwj : IntKind.i64.wrap ((j : Int) + 1) = (j : Int) + 1 := by rw [w64_id] <;> omega
        have hjf : j < f.length := by omega
        by_cases he : nth f i = nth f j
        ·have hn : ¬ PermL m f := fun hp => hp.inj j i hj (by omega) he.symm
         rw [decide_eq_false hn] at hbb
         subst hbb
         simp [g0, g1, g6, g13, g14, g15, g29, g30, g31, hj, rd_def, hr j hjf, he, endK_ret, back, hsc]
        ·simp [g0, g1, g6, g13, g14, g15, g29, g30, g31, hj, rd_def, hr j hjf, he, hwj]
         refine ⟨kk' - 1, by omega, j + 1, by omega, fun u hu => ?_, by omega⟩
         by_cases e : u = j
         ·rw [e]; exact Ne.symm he
         ·exact hd2 u (by omega)
       ·have hji : j = i := by omega
        simp [g0, g1, g6, g13, g14, g15, g29, g30, g31, hji, hwi]
        refine ⟨kk - 1, by omega, i + 1, by omega, fun j hj => ?_, fun u w huw hw => ?_, by omega⟩
        ·by_cases e : j = i
         ·rw [e]; exact ⟨by omega, by omega⟩
         ·exact hd j (by omega)
        ·by_cases e : w = i
         ·rw [e]; exact hd2 u (by omega)
         ·exact hinj u w huw (by omega)
      ·exact ⟨0, by omega, rfl, fun u hu => by omega, by simp [g0, g1, g13, g14, g15]⟩
   ·have him : i = m := by omega
    have hP : PermL m f := ⟨hl, fun j hj => hd j (by omega), fun u w huw hw => hinj u w huw (by omega)⟩
    rw [decide_eq_true hP] at hbb
    subst hbb
    simp [g0, g1, g13, g14, g15, him, endK_ret, back, hsc]
  ·exact ⟨0, by omega, rfl, fun j hj => by omega, fun u w _ hw => by omega, by simp [hl]⟩
 ·have hl' : ¬ (f.length : Int) = m := by omega
  have hn : ¬ PermL m f := fun hp => hl hp.len
  rw [decide_eq_false hn] at hbb
  subst hbb
  simp [hl, hl', endK_ret, back, hsc]
end Go.Proofs.Ytjlkndkedknocaa
namespace Go.Ai
def szL (xs : List Int) : Nat := (xs.map Int.toNat).sum
theorem szL_set : ∀ {xs : List Int} {i : Nat} (v : Int), i < xs.length → szL (xs.set i v) + (nth xs i).toNat = szL xs + v.toNat := by
 intro xs
 induction xs with
 | nil => intro i v h; simp at h
 | cons y ys ih =>
  intro i v h
  cases i with
  | zero => simp [szL, nth]; omega
  | succ i =>
   have := ih (i := i) v (by simpa using h)
   simp only [szL, List.set_cons_succ, List.map_cons, List.sum_cons] at this ⊢
   have e : nth (y :: ys) (i + 1) = nth ys i := by simp [nth]
   rw [e]
   omega
structure FixR (r : Nat → Nat) (N : Nat) (xs : List Int) : Prop where
 len : xs.length = N
 val : ∀ i, i < N → ∃ u : Nat, nth xs i = u ∧ u ≤ i ∧ r u = r i
theorem FixR.set {r : Nat → Nat} {N : Nat} {xs : List Int} (h : FixR r N xs) {i u : Nat} (hi : i < N) (hu : u ≤ i) (hr : r u = r i) : FixR r N (xs.set i u) := by
 refine ⟨by rw [List.length_set]; exact h.len, fun j hj => ?_⟩
 rw [nth_set (by rw [h.len]; exact hi)]
 by_cases e : j = i
 ·rw [if_pos e, e]; exact ⟨u, rfl, hu, hr⟩
 ·rw [if_neg e]; exact h.val j hj
theorem FixR.done {X : Nat → Nat → Nat} {n N : Nat} {xs : List Int} (h : FixR (archR X n) N xs) (hX : ∀ c, c < n → nth xs (X c 1) = nth xs (X c 3)) {i : Nat} (hi : i < N) : nth xs i = archR X n i := by
 have hr := archR_rep X n
 have e := archR_const (f := fun j => nth xs j) n hX i
 have hle := hr.le i
 obtain ⟨u, h1, h2, h3⟩ := h.val (archR X n i) (by omega)
 have h4 := hr.le u
 rw [h3, hr.idem] at h4
 rw [← e, h1]
 omega
end Go.Ai
namespace Go.Proofs.Ytjlkndkedknocaa
open Go Go.Ai
attribute [local instance] Classical.propDecidable
variable {E : Env} (hE : OE E)
include hE
theorem archesR_ {h0 : List O} {a : Option Addr} {n c : Nat} {x : Nat → Nat → Int} {s : Nat → Int} {L : Int} (hx : CrossP h0 a n x s) (hS : Snd n x s L) :
  DC E 59 [dV a n c L] ⟨h0, h0.length⟩ fun o st' => ∃ b, o = .ret (.tuple #[.slice (some ⟨b, 0, none⟩) (2 * n) (2 * n), .int .i64 (arC (dgOf n x s L) + L)]) ∧ Sub h0 st'.h ∧ h0.length ≤ st'.fl ∧ h0.length ≤ b ∧ st'.h[b]? = some (.cells (intsC (arL (dgOf n x s L))) 3 (some 0)) := by
 refine hE.fnC (body := rb59) rfl ?_
 unfold rb59
 obtain ⟨G, hGe⟩ : ∃ G, G = dgOf n x s L := ⟨_, rfl⟩
 have hG : GoodG G := by rw [hGe]; exact good_of hS
 have hGn : G.n = n := by rw [hGe]; rfl
 have hGL : G.L = L := by rw [hGe]; rfl
 have hsz := hG.size
 have hXx : ∀ i q, i < n → q < 4 → x i q = (G.X i q : Int) := fun i q hi hq => by rw [hGe]; exact sound_x hS hi hq
 have hXlt : ∀ i q, i < n → q < 4 → G.X i q < 2 * n := fun i q hi hq => by rw [← hGn]; exact hG.X i q (by rw [hGn]; exact hi) hq
 rw [← hGe]
 obtain ⟨N, hN⟩ : ∃ N, N = 2 * n := ⟨_, rfl⟩
 have hw2 : IntKind.i64.wrap (2 * (n : Int)) = (N : Int) := by rw [w64_id] <;> omega
 have e1 : (N : Int) * 8 ≤ 140737488355328 := by omega
 have e2 : (N : Int) < 4611686018427387904 := by omega
 have hrep : rep N [Value.int .i64 0] = intsC (List.replicate N 0) := by simp [rep, intsC]
 obtain ⟨F, hF⟩ : ∃ F, F = h0.length + 1 := ⟨_, rfl⟩
 obtain ⟨h1, hh1⟩ : ∃ H, H = h0 ++ [O.cells [.slice a n c, .int .i64 L] 24 (some 0)] := ⟨_, rfl⟩
 have l1 : h1.length = h0.length + 1 := by rw [hh1]; simp
 have b0 : h1[h0.length]? = some (O.cells [.slice a n c, .int .i64 L] 24 (some 0)) := by rw [hh1, app_at0]; rfl
 have s1 : Sub h0 h1 := by rw [hh1]; exact (Sub.refl _).app _
 simp only [dV]
 simp [← hh1, rd_def, b0, hw2, e1, e2, hrep, ← hN]
 rw [← l1] at hF
 rw [← hF]
 have hr := arR_rep G
 refine DW_loop (fun kk fr st => ∃ (i : Nat) (xs : List Int), i + kk = N ∧ st = ⟨h1 ++ [.cells (intsC xs) 3 (some 0)], h0.length⟩ ∧ xs.length = N ∧ (∀ j, j < N → nth xs j = if j < i then (j : Int) else 0) ∧
  get fr 1 = .pointer (some ⟨h0.length, 0, none⟩) ∧ get fr 4 = .slice (some ⟨F, 0, none⟩) N N ∧ get fr 22 = .int .i64 N ∧ get fr 23 = .int .i64 i) ?_ (k := N) ?_
 ·rintro kk fr st ⟨i, xs, hik, rfl, hxl, hxs, g1, g4, g22, g23⟩
  by_cases hi : i < N
  ·have hw : IntKind.i64.wrap ((i : Int) + 1) = (i : Int) + 1 := by rw [w64_id] <;> omega
   have hmn : min h0.length F = h0.length := by omega
   have hbF : (h1 ++ [.cells (intsC xs) 3 (some 0)])[F]? = some (O.cells (intsC xs) 3 (some 0)) := by rw [hF, app_at0]; rfl
   have hset : (h1 ++ [O.cells (intsC xs) 3 (some 0)]).set F (O.cells (intsC (xs.set i (i : Int))) 3 (some 0)) = h1 ++ [O.cells (intsC (xs.set i (i : Int))) 3 (some 0)] := by rw [hF, set_at0]; rfl
   have hi1 : i + 1 ≤ N := by omega
   simp [g1, g4, g22, g23, hi, hi1, hw, wrN_def, ↓hbF, hxl, intsC_set, hmn, ↓hset]
   refine ⟨kk - 1, by omega, i + 1, by omega, xs.set i i, rfl, by simp [hxl], fun j hj => ?_, by omega⟩
   rw [nth_set (by rw [hxl]; exact hi), hxs j hj]
   by_cases e : j = i
   ·rw [if_pos e, if_pos (by omega), e]
   ·rw [if_neg e]
    by_cases e2 : j < i
    ·rw [if_pos e2, if_pos (by omega)]
    ·rw [if_neg e2, if_neg (by omega)]
  ·have hiN : i = N := by omega
   obtain ⟨h2, hh2⟩ : ∃ H, H = h1 ++ [O.cells (intsC xs) 3 (some 0)] := ⟨_, rfl⟩
   have l2 : h2.length = h1.length + 1 := by rw [hh2]; simp
   have s2 : Sub h1 h2 := by rw [hh2]; exact (Sub.refl _).app _
   have cF : h2[F]? = some (O.cells (intsC xs) 3 (some 0)) := by rw [hh2, hF, app_at0]; rfl
   have hfix : FixR (arR G) N xs := ⟨hxl, fun j hj => ⟨j, by rw [hxs j hj, if_pos (by omega)], Nat.le_refl _, rfl⟩⟩
   simp [g1, g4, g22, g23, hiN]
   rw [← hh2]
   refine DW_loop (fun kk fr st => ∃ (h : List O) (ys : List Int) (more : Bool), st = ⟨h, h0.length⟩ ∧ Sub h1 h ∧ AtB h F (.cells (intsC ys) 3 (some 0)) ∧ FixR (arR G) N ys ∧ get fr 1 = .pointer (some ⟨h0.length, 0, none⟩) ∧ get fr 4 = .slice (some ⟨F, 0, none⟩) N N ∧ get fr 6 = .bool more ∧
    ((more = true ∧ kk = szL ys + 1) ∨ (more = false ∧ kk = 0 ∧ ∀ c, c < n → nth ys (G.X c 1) = nth ys (G.X c 3)))) ?_ (k := szL xs + 1) ?_
   ·clear g1 g4 g22 g23
    rintro kk fr st ⟨h, ys, more, rfl, hsub, aF, hfy, g1, g4, g6, hm⟩
    rcases hm with ⟨rfl, rfl⟩ | ⟨rfl, rfl, hdone⟩
    ·have c0 := hsub _ _ b0
     simp [g1, g4, g6, rd_def, ↓c0]
     refine DW_loop (fun kk' fr st => ∃ (j : Nat) (h' : List O) (zs : List Int) (ch : Bool), j + kk' = n ∧ st = ⟨h', h0.length⟩ ∧ Sub h1 h' ∧ AtB h' F (.cells (intsC zs) 3 (some 0)) ∧ FixR (arR G) N zs ∧ (ch = true → szL zs < szL ys) ∧ (ch = false → zs = ys ∧ ∀ c, c < j → nth zs (G.X c 1) = nth zs (G.X c 3)) ∧
      get fr 1 = .pointer (some ⟨h0.length, 0, none⟩) ∧ get fr 4 = .slice (some ⟨F, 0, none⟩) N N ∧ get fr 6 = .bool ch ∧ get fr 33 = .slice a n c ∧ get fr 34 = .int .i64 n ∧ get fr 35 = .int .i64 j) ?_ (k := n) ?_
     ·clear g1 g4 g6
      rintro kk' fr st ⟨j, h', zs, ch, hjk, rfl, hsub', aF', hfz, hc1, hc2, g1, g4, g6, g33, g34, g35⟩
      unfold AtB at aF'
      by_cases hj : j < n
      ·have hw : IntKind.i64.wrap ((j : Int) + 1) = (j : Int) + 1 := by rw [w64_id] <;> omega
       obtain ⟨xb, xo, hxa, hxr⟩ := hx
       obtain rfl := hxa (by omega)
       have hcr : rdN h' xb (xo + j * 5) 5 = some (crossC (x j) (s j)) := Sub.rdN (s1.trans hsub') (hxr j hj)
       rw [rdN_def] at hcr
       simp only [crossC] at hcr
       rw [hXx j 0 hj (by omega), hXx j 1 hj (by omega), hXx j 2 hj (by omega), hXx j 3 hj (by omega)] at hcr
       obtain ⟨p, hp⟩ : ∃ p, p = G.X j 1 := ⟨_, rfl⟩
       obtain ⟨q, hq⟩ : ∃ q, q = G.X j 3 := ⟨_, rfl⟩
       have hpN : p < N := by rw [hp, hN]; exact hXlt j 1 hj (by omega)
       have hqN : q < N := by rw [hq, hN]; exact hXlt j 3 hj (by omega)
       obtain ⟨u, u1, u2, u3⟩ := hfz.val p hpN
       obtain ⟨v, v1, v2, v3⟩ := hfz.val q hqN
       have hpq : arR G p = arR G q := by rw [hp, hq]; exact archR_eq G.X G.n j (by rw [hGn]; exact hj)
       have zl := hfz.len
       have gp : (intsC zs)[p]? = some (.int .i64 u) := by rw [← u1]; exact intsC_get (by omega)
       have gq : (intsC zs)[q]? = some (.int .i64 v) := by rw [← v1]; exact intsC_get (by omega)
       rw [← hp, ← hq] at hcr
       obtain ⟨h3, hh3⟩ : ∃ H, H = h' ++ [O.cells [.int .i64 (G.X j 0), .int .i64 p, .int .i64 (G.X j 2), .int .i64 q, .int .i64 (s j)] 107 (some 0)] := ⟨_, rfl⟩
       have lF := (List.getElem?_eq_some_iff.1 aF').1
       have d8 : h3[h'.length]? = some (O.cells [.int .i64 (G.X j 0), .int .i64 p, .int .i64 (G.X j 2), .int .i64 q, .int .i64 (s j)] 107 (some 0)) := by rw [hh3, app_at0]; rfl
       have dF : h3[F]? = some (O.cells (intsC zs) 3 (some 0)) := by rw [hh3]; exact app_of aF' _
       have hmn8 : min h0.length h'.length = h0.length := by have := (s1.trans hsub').len; omega
       have hmnF : min h0.length F = h0.length := by omega
       by_cases hpv : u = v
       ·subst hpv
        have hmm : maxminV false [Value.int .i64 u, .int .i64 u] = some (.int .i64 u) := by simp [maxminV, maxmin2]
        simp [g1, g4, g6, g33, g34, g35, hj, rd_def, rdN_def, hcr, wrN_at0, set_at0, hmn8, ↓← hh3, ↓d8, ↓dF, hpN, hqN, gp, gq, hmm, hw]
        refine ⟨kk' - 1, by omega, j + 1, by omega, by rw [hh3]; exact hsub'.app _, zs, dF, hfz, ?_⟩
        have heq : nth zs p = nth zs q := by rw [u1, v1]
        cases ch with
        | false =>
         obtain ⟨z1, z2⟩ := hc2 rfl
         refine .inl ⟨⟨z1, fun c hc => ?_⟩, rfl, by omega⟩
         by_cases e : c = j
         ·rw [e, ← hp, ← hq]; exact heq
         ·exact z2 c (by omega)
        | true => exact .inr ⟨hc1 rfl, rfl, by omega⟩
       ·obtain ⟨m, hm⟩ : ∃ m, m = min u v := ⟨_, rfl⟩
        have hmm : maxminV false [Value.int .i64 u, .int .i64 v] = some (.int .i64 m) := by
         simp only [maxminV, maxmin2]
         simp
         split <;> omega
        have hmc : m = u ∨ m = v := by omega
        have hmr1 : arR G m = arR G p := by
         rcases hmc with e | e
         ·rw [e]; exact u3
         ·rw [e, v3, hpq]
        have hmr2 : arR G m = arR G q := by rw [hmr1, hpq]
        have f1 := hfz.set (u := m) hpN (by omega) hmr1
        have f2 := f1.set (u := m) hqN (by omega) hmr2
        have hsz1 := szL_set (xs := zs) (i := p) (m : Int) (by omega)
        have hsz2 := szL_set (xs := zs.set p m) (i := q) (m : Int) (by rw [List.length_set]; omega)
        rw [nth_set (by omega)] at hsz2
        have hqp : q ≠ p := fun e => hpv (by rw [e] at v1; omega)
        rw [if_neg hqp, v1] at hsz2
        rw [u1] at hsz1
        have hlt : szL ((zs.set p m).set q m) < szL zs := by omega
        have hp1 : p + 1 ≤ N := by omega
        have hq1 : q + 1 ≤ N := by omega
        obtain ⟨h4, hh4⟩ : ∃ H, H = h3.set F (O.cells (intsC (zs.set p m)) 3 (some 0)) := ⟨_, rfl⟩
        have eF : h4[F]? = some (O.cells (intsC (zs.set p m)) 3 (some 0)) := by rw [hh4]; exact set_self dF
        obtain ⟨h5, hh5⟩ : ∃ H, H = h4.set F (O.cells (intsC ((zs.set p m).set q m)) 3 (some 0)) := ⟨_, rfl⟩
        have gF : h5[F]? = some (O.cells (intsC ((zs.set p m).set q m)) 3 (some 0)) := by rw [hh5]; exact set_self eF
        have hs5 : Sub h1 h5 := fun b o hb => by
         have := (List.getElem?_eq_some_iff.1 hb).1
         rw [hh5, hh4, hh3]
         exact set_ne (set_ne (app_of (hsub' _ _ hb) _) (by omega)) (by omega)
        have zl1 : (zs.set p (m : Int)).length = N := by rw [List.length_set]; omega
        have hne : ¬ (u = m ∧ v = m) := by omega
        have fin : ∃ x, AtB h5 F (O.cells (intsC x) 3 (some 0)) ∧ FixR (arR G) N x ∧ szL x < szL ys := by
         refine ⟨_, gF, f2, ?_⟩
         cases ch with
         | false => obtain ⟨z1, _⟩ := hc2 rfl; rw [← z1]; exact hlt
         | true => have := hc1 rfl; omega
        have hmi : min (u : Int) (v : Int) = (m : Int) := by omega
        by_cases hum : u = m
        ·have hvm : ¬ (v : Int) = m := by omega
         subst hum
         have hvm' : ¬ v = u := by omega
         simp [g1, g4, g6, g33, g34, g35, hj, rd_def, rdN_def, hcr, wrN_at0, set_at0, hmn8, ↓← hh3, ↓d8, ↓dF, hpN, hqN, gp, gq, hmm, hw, u1, v1, hmi, hvm, hvm', wrN_def, hp1, hq1, zl, intsC_set, hmnF, ↓← hh4, ↓eF, zl1, ↓← hh5]
         obtain ⟨xx, y1, y2, y3⟩ := fin
         exact ⟨kk' - 1, by omega, j + 1, by omega, hs5, xx, y1, y2, y3, by omega⟩
        ·simp [g1, g4, g6, g33, g34, g35, hj, rd_def, rdN_def, hcr, wrN_at0, set_at0, hmn8, ↓← hh3, ↓d8, ↓dF, hpN, hqN, gp, gq, hmm, hw, u1, v1, hmi, hum, wrN_def, hp1, hq1, zl, intsC_set, hmnF, ↓← hh4, ↓eF, zl1, ↓← hh5]
         obtain ⟨xx, y1, y2, y3⟩ := fin
         exact ⟨kk' - 1, by omega, j + 1, by omega, hs5, xx, y1, y2, y3, by omega⟩
      ·have hjn : j = n := by omega
       simp [g1, g4, g6, g33, g34, g35, hjn]
       cases ch with
       | false =>
        obtain ⟨z1, z2⟩ := hc2 rfl
        refine ⟨0, by omega, hsub', zs, aF', hfz, .inl ⟨rfl, rfl, fun c hc => z2 c (by omega)⟩⟩
       | true =>
        have := hc1 rfl
        refine ⟨szL zs + 1, by omega, hsub', zs, aF', hfz, .inr ⟨rfl, rfl⟩⟩
     ·exact ⟨0, h, ys, false, by omega, rfl, hsub, aF, hfy, (fun e => by cases e), (fun _ => ⟨rfl, fun c hc => by omega⟩), by simp [g1, g4]⟩
    ·have hval : ∀ j, j < N → nth ys j = arR G j := fun j hj => hfy.done (X := G.X) (n := G.n) (fun c hc => hdone c (by rw [← hGn]; exact hc)) hj
     have c0 := hsub _ _ b0
     have yl := hfy.len
     unfold AtB at aF
     have lF := (List.getElem?_eq_some_iff.1 aF).1
     have l01 := s1.len
     have lh := hsub.len
     obtain ⟨B, hB⟩ : ∃ B, B = h.length := ⟨_, rfl⟩
     simp [g1, g4, g6, e1, e2, hrep]
     rw [← hB]
     refine DW_loop (fun kk fr st => ∃ (i : Nat) (zs : List Int), i + kk = N ∧ st = ⟨h ++ [.cells (intsC zs) 3 (some 0)], h0.length⟩ ∧ zs.length = N ∧ (∀ j, j < i → nth zs j = arN G j) ∧
      get fr 1 = .pointer (some ⟨h0.length, 0, none⟩) ∧ get fr 12 = .slice (some ⟨B, 0, none⟩) N N ∧ get fr 13 = .int .i64 (cntR (arR G) i) ∧ get fr 80 = .slice (some ⟨F, 0, none⟩) N N ∧ get fr 81 = .int .i64 N ∧ get fr 82 = .int .i64 i) ?_ (k := N) ?_
     ·clear g1 g4 g6
      rintro kk fr st ⟨i, zs, hik, rfl, hzl, hzs, g1, g12, g13, g80, g81, g82⟩
      have bB : (h ++ [O.cells (intsC zs) 3 (some 0)])[B]? = some (O.cells (intsC zs) 3 (some 0)) := by rw [hB, app_at0]; rfl
      have bF : (h ++ [O.cells (intsC zs) 3 (some 0)])[F]? = some (O.cells (intsC ys) 3 (some 0)) := app_of aF _
      have b00 : (h ++ [O.cells (intsC zs) 3 (some 0)])[h0.length]? = some (O.cells [.slice a n c, .int .i64 L] 24 (some 0)) := app_of c0 _
      have hmB : min h0.length B = h0.length := by omega
      by_cases hi : i < N
      ·have hw : IntKind.i64.wrap ((i : Int) + 1) = (i : Int) + 1 := by rw [w64_id] <;> omega
       have hi1 : i + 1 ≤ N := by omega
       have gy : (intsC ys)[i]? = some (.int .i64 (arR G i)) := by rw [← hval i hi]; exact intsC_get (by omega)
       have hset : ∀ v : Int, (h ++ [O.cells (intsC zs) 3 (some 0)]).set B (O.cells (intsC (zs.set i v)) 3 (some 0)) = h ++ [O.cells (intsC (zs.set i v)) 3 (some 0)] := fun v => by rw [hB, set_at0]; rfl
       have hci : cntR (arR G) i ≤ i := cntP_le _ _
       have hci2 := cntR_succ (arR G) i
       have hle := hr.le i
       by_cases he : arR G i = i
       ·rw [if_pos he] at hci2
        have hwc : IntKind.i64.wrap ((cntR (arR G) i : Int) + 1) = (cntR (arR G) i : Int) + 1 := by rw [w64_id] <;> omega
        have he' : (arR G i : Int) = i := by omega
        have hNi : arN G i = cntR (arR G) i := by unfold arN; rw [he]
        simp [g1, g12, g13, g80, g81, g82, hi, hi1, hw, rd_def, ↓bF, ↓bB, gy, he, wrN_def, hzl, intsC_set, hmB, ↓hset, hwc]
        refine ⟨kk - 1, by omega, i + 1, by omega, _, rfl, by simp [hzl], fun j hj => ?_, by omega, by omega⟩
        rw [nth_set (by omega)]
        by_cases e : j = i
        ·rw [if_pos e, e, hNi]
        ·rw [if_neg e]; exact hzs j (by omega)
       ·rw [if_neg he] at hci2
        have he' : ¬ (arR G i : Int) = i := by omega
        have hrN : arR G i < N := by omega
        have gz : (intsC zs)[arR G i]? = some (.int .i64 (arN G (arR G i))) := by rw [← hzs _ (by omega)]; exact intsC_get (by omega)
        have hNi : arN G (arR G i) = arN G i := by unfold arN; rw [hr.idem]
        rw [hNi] at gz
        simp [g1, g12, g13, g80, g81, g82, hi, hi1, hw, rd_def, ↓bF, ↓bB, gy, gz, he, hrN, wrN_def, hzl, intsC_set, hmB, ↓hset]
        refine ⟨kk - 1, by omega, i + 1, by omega, _, rfl, by simp [hzl], fun j hj => ?_, by omega, by omega⟩
        rw [nth_set (by omega)]
        by_cases e : j = i
        ·rw [if_pos e, e, hzs _ (by omega), hNi]
        ·rw [if_neg e]; exact hzs j (by omega)
      ·have hiN2 : i = N := by omega
       have hwC : IntKind.i64.wrap ((cntR (arR G) N : Int) + L) = (arC G : Int) + L := by
        have h1 := arC_le G
        have h2 := hG.loops
        rw [hGL] at h2
        have h3 : cntR (arR G) N = arC G := by unfold arC; rw [hGn, ← hN]
        rw [h3, w64_id] <;> omega
       rw [hiN2] at g13 hzs
       have hzL : zs = arL G := eq_tabL (by rw [hzl, hGn, hN]) (fun j hj => hzs j (by rw [hN, ← hGn]; exact hj))
       simp [g1, g12, g13, g80, g81, g82, hiN2, rd_def, ↓b00, hwC]
       unfold pairQ back
       rw [if_neg (by simp [Out.scalar, scalar, flat1, flat])]
       exact ⟨B, rfl, (s1.trans hsub).app _, Nat.le_refl _, by omega, by rw [← hzL]; exact bB⟩
     ·exact ⟨0, List.replicate N 0, by omega, rfl, by simp, fun j hj => by omega, by simp [g1, g4, cntR, cntP]⟩
   ·exact ⟨h2, xs, true, rfl, s2, cF, hfix, by simp [g1], by simp [g4], by simp, .inl ⟨rfl, rfl⟩⟩
 ·exact ⟨0, List.replicate N 0, by omega, rfl, by simp, fun j hj => by rw [if_neg (by omega)]; simp [nth, hj], by simp⟩
end Go.Proofs.Ytjlkndkedknocaa
namespace Go.Proofs.Ytjlkndkedknocaa
open Go Go.Ai
attribute [local instance] Classical.propDecidable
variable {E : Env} (hE : OE E)
include hE
end Go.Proofs.Ytjlkndkedknocaa
namespace Go.Proofs.Ytjlkndkedknocaa
open Go Go.Ai
attribute [local instance] Classical.propDecidable
def tgt (G : Dg) (a : Nat) (inn : Bool) : Nat × Nat := if inn then (G.T a 2, G.T a 3) else (G.T a 0, G.T a 1)
theorem tgt_in {G : Dg} (hG : GoodG G) {a : Nat} (ha : a < 2 * G.n) (inn : Bool) : (tgt G a inn).1 < G.n ∧ (tgt G a inn).2 < 4 := by
 obtain ⟨t0, t1, t2, t3, _⟩ := hG.T a ha
 cases inn
 ·exact ⟨t0, t1⟩
 ·exact ⟨t2, t3⟩
theorem tgt_hit {G : Dg} (hG : GoodG G) {a i q : Nat} (ha : a < 2 * G.n) (hi : i < G.n) (hq : q < 4) (inn : Bool) : (G.X i q = a ∧ (!outB (G.s i) q) = inn) ↔ (i, q) = tgt G a inn := by
 obtain ⟨t0, t1, t2, t3, x1, x2, hne⟩ := hG.T a ha
 obtain ⟨d1, d2⟩ := hG.dir a ha
 constructor
 ·rintro ⟨h1, h2⟩
  have hc := hG.cover i q hi hq
  rw [h1] at hc
  rcases hc with ⟨e1, e2⟩ | ⟨e1, e2⟩
  ·rw [← e1, ← e2] at d1
   rw [d1] at h2
   subst h2
   simp [tgt, e1.symm, e2.symm]
  ·rw [← e1, ← e2] at d2
   rw [d2] at h2
   subst h2
   simp [tgt, e1.symm, e2.symm]
 ·intro h
  cases inn
  ·simp only [tgt, Bool.false_eq_true, if_false, Prod.mk.injEq] at h
   rw [h.1, h.2]
   exact ⟨x1, by rw [d1]; rfl⟩
  ·simp only [tgt, if_true, Prod.mk.injEq] at h
   rw [h.1, h.2]
   exact ⟨x2, by rw [d2]; rfl⟩
theorem tgt_oth {G : Dg} (hG : GoodG G) {x : Nat × Nat} (hx : InV G x) : tgt G (G.X x.1 x.2) (outB (G.s x.1) x.2) = oth G x := by
 obtain ⟨h1, h2, h3⟩ := hx
 obtain ⟨t0, t1, t2, t3, x1, x2, hne⟩ := hG.T _ h3
 obtain ⟨d1, d2⟩ := hG.dir _ h3
 unfold oth
 rcases hG.cover _ _ h1 h2 with ⟨e1, e2⟩ | ⟨e1, e2⟩
 ·rw [if_pos ⟨e1.symm, e2.symm⟩]
  rw [← e1, ← e2] at d1
  simp [tgt, d1]
 ·rw [if_neg (fun h => hne ⟨by rw [h.1, ← e1], by rw [h.2, ← e2]⟩)]
  rw [← e1, ← e2] at d2
  simp [tgt, d2]
theorem CrossP.reads {h : List O} {b o n : Nat} {x : Nat → Nat → Int} {s : Nat → Int} (hr : ∀ i, i < n → rdN h b (o + i * 5) 5 = some (crossC (x i) (s i))) {i : Nat} (hi : i < n) : (∀ q, q < 4 → rd h b (o + i * 5 + q) = some (.int .i64 (x i q))) ∧ rd h b (o + i * 5 + 4) = some (.int .i64 (s i)) := by
 refine ⟨fun q hq => ?_, ?_⟩
 ·rw [rd_of_rdN (hr i hi) (show q < 5 by omega)]
  match q, hq with
  | 0, _ => rfl
  | 1, _ => rfl
  | 2, _ => rfl
  | 3, _ => rfl
 ·rw [rd_of_rdN (hr i hi) (show 4 < 5 by omega)]; rfl
variable {E : Env} (hE : OE E)
include hE
theorem In_ {h : List O} {x : Nat → Int} {s : Int} {q : Nat} (hs : s = 1 ∨ s = -1) (hq : q < 4) :
  DR E 192 [crossV x s, .int .i64 q] ⟨h, h.length⟩ (.ret (.bool (!outB s q))) ⟨h, h.length⟩ := by
 refine hE.fn (body := rb192) rfl ?_
 unfold rb192
 rcases hs with rfl | rfl
 all_goals
  match q, hq with
  | 0, _ => simp [crossV, rd_at0, outB]
  | 1, _ => simp [crossV, rd_at0, outB]
  | 2, _ => simp [crossV, rd_at0, outB]
  | 3, _ => simp [crossV, rd_at0, outB]
theorem end_ {h0 : List O} {a : Option Addr} {n c : Nat} {x : Nat → Nat → Int} {s : Nat → Int} {L : Int} (hx : CrossP h0 a n x s) (hS : Snd n x s L) {arc : Nat} (ha : arc < 2 * n) (inn : Bool) :
  DR E 213 [dV a n c L, .int .i64 arc, .bool inn] ⟨h0, h0.length⟩ (.ret (endV (tgt (dgOf n x s L) arc inn))) ⟨h0, h0.length⟩ := by
 refine hE.fn (body := rb213) rfl ?_
 unfold rb213
 have hG := good_of hS
 have hxe : ∀ i q, i < n → q < 4 → x i q = (dgOf n x s L).X i q := fun i q hi hq => sound_x hS hi hq
 obtain ⟨G, hGe⟩ : ∃ G, G = dgOf n x s L := ⟨_, rfl⟩
 have hGn : G.n = n := by rw [hGe]; rfl
 have hGs : G.s = s := by rw [hGe]; rfl
 rw [← hGe] at hG hxe ⊢
 have hsz := hG.size
 obtain ⟨xb, xo, hxa, hxr⟩ := hx
 obtain rfl := hxa (by omega)
 obtain ⟨t, ht⟩ : ∃ t, t = tgt G arc inn := ⟨_, rfl⟩
 obtain ⟨ht1, ht2⟩ := tgt_in hG (a := arc) (by omega) inn
 rw [← ht] at ht1 ht2 ⊢
 simp [dV, List.append_assoc]
 obtain ⟨hB, hhB⟩ : ∃ H, H = h0 ++ [O.cells [.slice (some ⟨xb, xo, none⟩) n c, .int .i64 L] 24 (some 0), O.cells [.int .i64 0, .int .i64 0] 72 (some 0)] := ⟨_, rfl⟩
 have hBs : Sub h0 hB := by rw [hhB]; exact (Sub.refl _).app _
 have hB0 : hB[h0.length]? = some (O.cells [.slice (some ⟨xb, xo, none⟩) n c, .int .i64 L] 24 (some 0)) := by rw [hhB, app_at0]; rfl
 have hB1 : hB[h0.length + 1]? = some (O.cells [.int .i64 0, .int .i64 0] 72 (some 0)) := by rw [hhB, app_at]; rfl
 rw [← hhB]
 refine DW_loop (fun kk fr st => ∃ (i : Nat), i + kk = n ∧ st = ⟨hB, h0.length⟩ ∧ 4 * i ≤ 4 * t.1 + t.2 ∧ get fr 1 = .int .i64 arc ∧ get fr 2 = .bool inn ∧ get fr 3 = .pointer (some ⟨h0.length, 0, none⟩) ∧ get fr 6 = .pointer (some ⟨h0.length + 1, 0, none⟩) ∧ get fr 7 = .int .i64 i) ?_ (k := n) ?_
 ·rintro kk fr st ⟨i, hik, rfl, hle, g1, g2, g3, g6, g7⟩
  have hi : i < n := by omega
  obtain ⟨rq, rs⟩ := CrossP.reads (fun i hi => hBs.rdN (hxr i hi)) hi
  have hcr := hBs.rdN (hxr i hi)
  rw [rdN_def] at hcr
  simp only [rd_def] at rq
  simp only [crossC] at hcr
  simp [g1, g2, g3, g6, g7, rd_def, hB0, hi]
  refine DW_loop (fun kk' fr st => ∃ (q : Nat), q + kk' = 4 ∧ st = ⟨hB, h0.length⟩ ∧ 4 * i + q ≤ 4 * t.1 + t.2 ∧ get fr 1 = .int .i64 arc ∧ get fr 2 = .bool inn ∧ get fr 3 = .pointer (some ⟨h0.length, 0, none⟩) ∧ get fr 6 = .pointer (some ⟨h0.length + 1, 0, none⟩) ∧ get fr 7 = .int .i64 i ∧ get fr 8 = .int .i64 q) ?_ (k := 4) ?_
  ·clear g1 g2 g3 g6 g7
   rintro kk' fr st ⟨q, hqk, rfl, hle, g1, g2, g3, g6, g7, g8⟩
   by_cases hq : q < 4
   ·have hq' : (q : Int) < 4 := by omega
    have hw : IntKind.i64.wrap ((q : Int) + 1) = (q : Int) + 1 := by rw [w64_id] <;> omega
    have hsg := hG.sign i (by omega)
    rw [hGs] at hsg
    have hin := fun h => In_ hE (h := h) (x := x i) (s := s i) hsg hq
    simp only [crossV] at hin
    have hit := tgt_hit hG (a := arc) (i := i) (q := q) (by omega) (by omega) hq inn
    rw [hGs, ← ht] at hit
    have hr := rq q hq
    rw [hxe i q hi hq] at hr
    have hmin : min h0.length (h0.length + 1) = h0.length := by omega
    have hself : ∀ o, (hB.set (h0.length + 1) o)[h0.length + 1]? = some o := fun o => set_self hB1
    have fin : (i, q) = t → True := fun _ => trivial
    by_cases he : G.X i q = arc
    ·by_cases hb : (!outB (s i) q) = inn
     ·have htt := hit.1 ⟨he, hb⟩
      have hb' : (outB (s i) q == !inn) = true := by rw [← hb]; simp
      simp [g1, g2, g3, g6, g7, g8, hq', rd_def, hB0, hi, hr, he, rdN_def, hcr, DC_q hin, hb, wrN_def, hB1, hmin, hself, back_scalar, Out.scalar, scalar, flat1, flat]
      rw [← htt]
      rfl
     ·have hne : (i, q) ≠ t := fun e => hb (hit.2 e).2
      have hb2 : ((!outB (s i) q) == inn) = false := by simpa using hb
      have hne2 : 4 * i + q ≠ 4 * t.1 + t.2 := fun e => hne (Prod.ext (by simp only; omega) (by simp only; omega))
      simp [g1, g2, g3, g6, g7, g8, hq', rd_def, hB0, hi, hr, he, rdN_def, hcr, DC_q hin, hb2, hw]
      exact ⟨kk' - 1, by omega, q + 1, by omega, by omega, by omega⟩
    ·have hne : (i, q) ≠ t := fun e => he (hit.2 e).1
     have hne2 : 4 * i + q ≠ 4 * t.1 + t.2 := fun e => hne (Prod.ext (by simp only; omega) (by simp only; omega))
     simp [g1, g2, g3, g6, g7, g8, hq', rd_def, hB0, hi, hr, he, hw]
     exact ⟨kk' - 1, by omega, q + 1, by omega, by omega, by omega⟩
   ·have hq4 : q = 4 := by omega
    subst hq4
    have hw : IntKind.i64.wrap ((i : Int) + 1) = (i : Int) + 1 := by rw [w64_id] <;> omega
    simp [g1, g2, g3, g6, g7, g8, hw]
    exact ⟨kk - 1, by omega, i + 1, by omega, by omega, by omega⟩
  ·exact ⟨0, by omega, rfl, by omega, by simp [g1, g2, g3, g6, g7]⟩
 ·exact ⟨0, by omega, rfl, by omega, by simp⟩
end Go.Proofs.Ytjlkndkedknocaa
namespace Go.Proofs.Ytjlkndkedknocaa
open Go Go.Ai
attribute [local instance] Classical.propDecidable
theorem DC_when {E : Env} {f : FuncId} {args : List Value} {o : Out} {P : List O → Prop} (hq : ∀ h, P h → DR E f args ⟨h, h.length⟩ o ⟨h, h.length⟩) {h : List O} {fl : Nat} (hp : P h) (e : fl = h.length) {Q : Out → St → Prop} : DC E f args ⟨h, fl⟩ Q ↔ Q o ⟨h, fl⟩ := by
 subst e; exact DC_of (hq h hp)
variable {E : Env} (hE : OE E)
include hE
theorem endIn {h0 : List O} {a : Option Addr} {n c : Nat} {x : Nat → Nat → Int} {s : Nat → Int} {L : Int} (hx : CrossP h0 a n x s) (hS : Snd n x s L) {arc : Nat} (ha : arc < 2 * n) :
  DR E 150 [dV a n c L, .int .i64 arc] ⟨h0, h0.length⟩ (.ret (endV (tgt (dgOf n x s L) arc true))) ⟨h0, h0.length⟩ := by
 refine hE.fn (body := rb150) rfl ?_
 unfold rb150
 have hc : ∀ l, CrossP (h0 ++ l) a n x s := fun l => hx.ext (Ext.snoc h0 l)
 have h1 := fun h k => end_ hE (h0 := h) (a := a) (x := x) (c := c) k hS ha true
 simp only [dV, endV] at h1
 simp [dV, rdN_at0, List.append_assoc, DC_when h1, endV, hc, joined_fl, wrN_at, set_at, rdN_at, back_scalar, Out.scalar, scalar, flat1, flat]
theorem other_ {h0 : List O} {a : Option Addr} {n c : Nat} {x : Nat → Nat → Int} {s : Nat → Int} {L : Int} (hx : CrossP h0 a n x s) (hS : Snd n x s L) {e : Nat × Nat} (he : InV (dgOf n x s L) e) :
  DR E 229 [dV a n c L, endV e] ⟨h0, h0.length⟩ (.ret (endV (oth (dgOf n x s L) e))) ⟨h0, h0.length⟩ := by
 refine hE.fn (body := rb229) rfl ?_
 unfold rb229
 have hc : ∀ l, CrossP (h0 ++ l) a n x s := fun l => hx.ext (Ext.snoc h0 l)
 have hG := good_of hS
 have hxe : x e.1 e.2 = (dgOf n x s L).X e.1 e.2 := sound_x hS he.1 he.2.1
 obtain ⟨he1, he2, he3⟩ := id he
 have hsg := hG.sign e.1 he1
 have h1 := fun h k => end_ hE (h0 := h) (a := a) (x := x) (c := c) k hS he3 (outB (s e.1) e.2)
 have hto := tgt_oth hG he
 rw [show (dgOf n x s L).s = s from rfl] at hto
 simp only [hto] at h1
 have hin := fun h => In_ hE (h := h) (x := x e.1) (s := s e.1) hsg he2
 simp only [dV, endV, crossV] at h1 hin
 obtain ⟨xb, xo, hxa, hxr⟩ := hx
 have he1' : e.1 < n := he1
 obtain rfl := hxa (by omega)
 obtain ⟨rq, rs⟩ := CrossP.reads hxr he1'
 have hcr := hxr _ he1'
 have r1 : ∀ l, rd (h0 ++ l) xb (xo + e.1 * 5 + e.2) = some (.int .i64 ((dgOf n x s L).X e.1 e.2)) := fun l => by rw [← hxe]; exact rd_append (rq _ he2) l
 have r2 : ∀ l, rdN (h0 ++ l) xb (xo + e.1 * 5) 5 = some (crossC (x e.1) (s e.1)) := fun l => rdN_append hcr l
 simp only [crossC] at r2
 have he2' : (e.2 : Int) < 4 := by omega
 simp [dV, endV, rdN_at0, rd_at0, List.append_assoc, he1', he2', r1, r2, rd_at, rdN_at, DC_when h1, DC_q hin, hc, joined_fl, wrN_at, set_at, back_scalar, Out.scalar, scalar, flat1, flat]
 exact ⟨by decide, by decide, fun h => absurd h (by decide), fun h => absurd h (by decide)⟩
theorem next2_ {h0 : List O} {a : Option Addr} {n c : Nat} {x : Nat → Nat → Int} {s : Nat → Int} {L : Int} (hx : CrossP h0 a n x s) (hS : Snd n x s L) {arc : Nat} (ha : arc < 2 * n) :
  DR E 143 [dV a n c L, .int .i64 arc] ⟨h0, h0.length⟩ (.ret (.int .i64 (nx (dgOf n x s L) arc))) ⟨h0, h0.length⟩ := by
 refine hE.fn (body := rb143) rfl ?_
 unfold rb143
 have hc : ∀ l, CrossP (h0 ++ l) a n x s := fun l => hx.ext (Ext.snoc h0 l)
 have hG := good_of hS
 have h1 := fun h k => endIn hE (h0 := h) (a := a) (x := x) (c := c) k hS ha
 simp only [dV, endV] at h1
 obtain ⟨t, ht⟩ : ∃ t, t = tgt (dgOf n x s L) arc true := ⟨_, rfl⟩
 obtain ⟨ht1, ht2⟩ := tgt_in hG (a := arc) ha true
 have hnx : nx (dgOf n x s L) arc = (dgOf n x s L).X t.1 ((t.2 + 2) % 4) := by rw [ht]; rfl
 have hsz := hG.size
 rw [hnx]
 rw [← ht] at ht1 ht2 h1
 have ht1' : t.1 < n := ht1
 have hsz' : n ≤ 100000 ∨ True := .inr trivial
 obtain ⟨xb, xo, hxa, hxr⟩ := hx
 obtain rfl := hxa (by omega)
 obtain ⟨rq, rs⟩ := CrossP.reads hxr ht1'
 have hw : IntKind.i64.wrap ((t.2 : Int) + 2) = t.2 + 2 := by rw [w64_id] <;> omega
 have r1 : ∀ l, rd (h0 ++ l) xb (xo + t.1 * 5 + (t.2 + 2) % 4) = some (.int .i64 ((dgOf n x s L).X t.1 ((t.2 + 2) % 4))) := fun l => by rw [← sound_x hS ht1' (by omega)]; exact rd_append (rq _ (by omega)) l
 have hmod : ((t.2 : Int) + 2).tmod 4 = ((t.2 + 2) % 4 : Nat) := tmod_add _ 2 4
 obtain ⟨w, hww⟩ : ∃ w, w = (t.2 + 2) % 4 := ⟨_, rfl⟩
 rw [← hww] at hmod r1 ⊢
 have hlt : (w : Int) < 4 := by omega
 simp [dV, rdN_at0, rd_at, rd_at0, List.append_assoc, DC_when h1, hc, endV, ht1', hw, joined_fl, wrN_at, set_at, back_scalar, Out.scalar, scalar, flat1, flat, hmod, hlt, r1]
end Go.Proofs.Ytjlkndkedknocaa
namespace Go.Proofs.Ytjlkndkedknocaa
open Go Go.Ai
attribute [local instance] Classical.propDecidable
variable {E : Env} (hE : OE E)
include hE
theorem of_ {h0 : List O} {a : Option Addr} {n c : Nat} {x : Nat → Nat → Int} {s : Nat → Int} {L : Int} (hx : CrossP h0 a n x s) (hS : Snd n x s L) :
  DC E 65 [dV a n c L] ⟨h0, h0.length⟩ fun o st' => ∃ (xs : List Int) (k : Nat), o = .ret (.slice (some ⟨h0.length + 1, 0, none⟩) (2 * n) (2 * n)) ∧ h0.length ≤ st'.fl ∧ Sub h0 st'.h ∧
   AtB st'.h (h0.length + 1) (.cells (intsC xs) 3 (some 0)) ∧ OrbI (2 * n) (nx (dgOf n x s L)) (2 * n) k xs ∧ k ≤ 2 * n := by
 refine hE.fnC (body := rb65) rfl ?_
 unfold rb65
 have hG := good_of hS
 obtain ⟨G, hGe⟩ : ∃ G, G = dgOf n x s L := ⟨_, rfl⟩
 have hGn : G.n = n := by rw [hGe]; rfl
 have hN := nx_perm hG
 have hnxt := fun {arc : Nat} (ha : arc < 2 * n) h k => next2_ hE (h0 := h) (a := a) (x := x) (c := c) k hS ha
 simp only [dV] at hnxt
 rw [← hGe] at hG hN ⊢
 simp only [← hGe] at hnxt
 have hsz := hG.size
 rw [hGn] at hsz hN
 obtain ⟨hB, hhB⟩ : ∃ H, H = h0 ++ [O.cells [.slice a n c, .int .i64 L] 24 (some 0)] := ⟨_, rfl⟩
 have lB : hB.length = h0.length + 1 := by rw [hhB]; simp
 have sB : Sub h0 hB := by rw [hhB]; exact (Sub.refl _).app _
 have bB : hB[h0.length]? = some (O.cells [.slice a n c, .int .i64 L] 24 (some 0)) := by rw [hhB, app_at0]; rfl
 have e0 : (0 : Int) ≤ 2 * n := by omega
 have e1 : 2 * (n : Int) * 8 ≤ 140737488355328 := by omega
 have e2 : 2 * (n : Int) < 4611686018427387904 := by omega
 have e3 : (2 * (n : Int)).toNat = 2 * n := by omega
 have hw0 : IntKind.i64.wrap (2 * (n : Int)) = 2 * n := by rw [w64_id] <;> omega
 simp [dV, rd_at0, e0, e1, e2, e3, hw0, List.append_assoc]
 obtain ⟨m, hm0⟩ : ∃ m, m = h0.length + 1 := ⟨_, rfl⟩
 rw [← hm0] at lB ⊢
 refine DW_loop (fun kk fr st => ∃ (i : Nat) (h : List O) (xs : List Int), i + kk = 2 * n ∧ st = ⟨h, h0.length⟩ ∧ Sub hB h ∧ AtB h m (.cells (intsC xs) 3 (some 0)) ∧ xs.length = 2 * n ∧ (∀ j, j < i → nth xs j = -1) ∧ get fr 1 = .pointer (some ⟨h0.length, 0, none⟩) ∧ get fr 4 = .slice (some ⟨m, 0, none⟩) (2 * n) (2 * n) ∧ get fr 3 = .int .i64 (2 * n) ∧ get fr 5 = .int .i64 i) ?_ (k := 2 * n) ?_
 ·rintro kk fr st ⟨i, h, xs, hik, rfl, hsub, hatB, hlen, hm, g1, g4, g3, g5⟩
  have hat := hatB
  unfold AtB at hat
  by_cases hi : i < 2 * n
  ·have hi' : (i : Int) < 2 * n := by omega
   have hw : IntKind.i64.wrap ((i : Int) + 1) = (i : Int) + 1 := by rw [w64_id] <;> omega
   have hi2 : i < xs.length := by omega
   have hi3 : i + 1 ≤ 2 * n := by omega
   have hmin : min h0.length m = h0.length := by omega
   simp [g1, g4, g3, g5, hi, hi', wrN_def, hat, hlen, intsC_set, hw, hi3, hmin]
   refine ⟨kk - 1, by omega, i + 1, by omega, hsub.set (by omega) _, xs.set i (-1), set_self hat, by simp [hlen], fun j hj => ?_, by omega⟩
   rw [nth_set hi2]
   by_cases e : j = i
   ·rw [if_pos e]
   ·rw [if_neg e]; exact hm j (by omega)
  ·have hin : i = 2 * n := by omega
   subst hin
   simp [g1, g4, g3, g5]
   have hO := OrbI.start (f := nx G) hlen (fun j hj => hm j hj)
   refine DW_loop (fun kk fr st => ∃ (i : Nat) (h : List O) (xs : List Int) (cnt : Nat), i + kk = 2 * n ∧ st = ⟨h, h0.length⟩ ∧ Sub hB h ∧ AtB h m (.cells (intsC xs) 3 (some 0)) ∧ OrbI (2 * n) (nx G) i cnt xs ∧ cnt ≤ i ∧ get fr 1 = .pointer (some ⟨h0.length, 0, none⟩) ∧ get fr 4 = .slice (some ⟨m, 0, none⟩) (2 * n) (2 * n) ∧ get fr 6 = .int .i64 cnt ∧ get fr 3 = .int .i64 (2 * n) ∧ get fr 7 = .int .i64 i) ?_ (k := 2 * n) ?_
   ·clear g1 g4 g3 g5 hO hm hlen hat hatB hsub hik
    clear xs h
    rintro kk fr st ⟨i, h, xs, cnt, hik, rfl, hsub, hatB, hO, hcnt, g1, g4, g6, g3, g7⟩
    have hat := hatB
    unfold AtB at hat
    have hlen := hO.len
    by_cases hi : i < 2 * n
    ·have hi' : (i : Int) < 2 * n := by omega
     have hw : IntKind.i64.wrap ((i : Int) + 1) = (i : Int) + 1 := by rw [w64_id] <;> omega
     have hi2 : i < xs.length := by omega
     by_cases hf : 0 ≤ nth xs i
     ·simp [g1, g4, g6, g3, g7, hi, hi', rd_def, hat, intsC_get hi2, hf, hw]
      exact ⟨kk - 1, by omega, i + 1, by omega, hsub, xs, hatB, cnt, hO.skip hf, by omega, rfl, by omega⟩
     ·have hneg : nth xs i < 0 := by omega
      simp [g1, g4, g6, g3, g7, hi, hi', rd_def, hat, intsC_get hi2, hf]
      obtain ⟨P, ⟨p1, p2, p3⟩, p4⟩ := hN.period hi
      refine DW_loop (fun kk' fr st => ∃ (t : Nat) (h : List O) (xs' : List Int), t + kk' = P ∧ st = ⟨h, h0.length⟩ ∧ Sub hB h ∧ AtB h m (.cells (intsC xs') 3 (some 0)) ∧ OrbT (2 * n) (nx G) i cnt t xs xs' ∧ get fr 1 = .pointer (some ⟨h0.length, 0, none⟩) ∧ get fr 4 = .slice (some ⟨m, 0, none⟩) (2 * n) (2 * n) ∧ get fr 6 = .int .i64 cnt ∧ get fr 3 = .int .i64 (2 * n) ∧ get fr 7 = .int .i64 i ∧ get fr 8 = .int .i64 (itr (nx G) i t)) ?_ (k := P) ?_
      ·clear g1 g4 g6 g3 g7
       rintro kk' fr st ⟨t, h', xs', htk, rfl, hsub', hatB', hT, g1, g4, g6, g3, g7, g8⟩
       have hat' := hatB'
       unfold AtB at hat'
       have hb := hN.itr_lt hi t
       have hb' : ((itr (nx G) i t : Nat) : Int) < 2 * n := by omega
       have hb2 : itr (nx G) i t < xs'.length := by rw [hT.len]; exact hb
       have hb3 : itr (nx G) i t + 1 ≤ 2 * n := by omega
       by_cases ht : t < P
       ·have hng := hT.neg hN hO hi hneg p4 ht
        have hnx := hnxt hb
        have hss : ∀ o, Sub hB (h'.set m o) := fun o => hsub'.set (by omega) o
        have hcs : ∀ o, CrossP (h'.set m o) a n x s := fun o => hx.sub (sB.trans (hss o))
        have hbx : ∀ o, (h'.set m o)[h0.length]? = some (O.cells [.slice a n c, .int .i64 L] 24 (some 0)) := fun o => hss o _ _ bB
        have hmin : min h0.length m = h0.length := by omega
        simp [g1, g4, g6, g3, g7, g8, hb', rd_def, wrN_def, hat', intsC_get hb2, hng, intsC_set, hT.len, hb3, hmin, rdN_def, hbx, DC_when hnx, hcs, joined_fl]
        exact ⟨kk' - 1, by omega, t + 1, by omega, hsub'.set (by omega) _, _, set_self hat', hT.next hb, rfl⟩
       ·have : t = P := by omega
        subst this
        have hng : ¬ nth xs' (itr (nx G) i t) < 0 := by
         rw [hT.at_, if_pos ⟨0, p1, by rw [p2]; rfl⟩]; omega
        have hw2 : IntKind.i64.wrap ((cnt : Int) + 1) = (cnt : Int) + 1 := by rw [w64_id] <;> omega
        simp [g1, g4, g6, g3, g7, g8, hb', rd_def, hat', intsC_get hb2, hng, hw, hw2]
        exact ⟨kk - 1, by omega, i + 1, by omega, hsub', xs', hatB', cnt + 1, hT.finish hN hO hi hneg p1 p2, by omega, by omega, by omega⟩
      ·exact ⟨0, h, xs, by omega, rfl, hsub, hatB, OrbT.start hO, by simp [g1, g4, g6, g3, g7, itr]⟩
    ·have hin : i = 2 * n := by omega
     have hi' : ¬ (i : Int) < 2 * n := by omega
     simp [g1, g4, g6, g3, g7, hi', endK_ret]
     unfold pairQ back
     rw [if_neg (by simp [Out.scalar, scalar, flat1, flat])]
     rw [hin] at hO hcnt
     exact ⟨rfl, Nat.le_refl _, sB.trans hsub, xs, hatB, cnt, hO, hcnt⟩
   ·exact ⟨0, h, xs, 0, by omega, rfl, hsub, hatB, hO, by omega, by simp [g1, g4, g3]⟩
 ·refine ⟨0, _, List.replicate (2 * n) 0, by omega, rfl, ?_, ?_, by simp, fun j h => by omega, by simp⟩
  ·rw [hhB]
   exact (Ext.sub ⟨[O.cells (rep (2 * n) [.int .i64 0]) 3 (some 0)], by simp⟩)
  ·unfold AtB
   rw [hm0, app_at]
   simp [rep, intsC]
end Go.Proofs.Ytjlkndkedknocaa
namespace Go.Proofs.Ytjlkndkedknocaa
open Go Go.Ai
attribute [local instance] Classical.propDecidable
variable {E : Env} (hE : OE E)
include hE
theorem count_ {h0 : List O} {a : Option Addr} {n c : Nat} {x : Nat → Nat → Int} {s : Nat → Int} {L : Int} (hx : CrossP h0 a n x s) (hS : Snd n x s L) :
  DC E 31 [dV a n c L] ⟨h0, h0.length⟩ fun o st' => ∃ (xs : List Int) (k : Nat), OrbI (2 * n) (nx (dgOf n x s L)) (2 * n) k xs ∧ k ≤ 2 * n ∧ o = .ret (.int .i64 (k + L)) ∧ st' = ⟨h0, h0.length⟩ := by
 refine hE.fnC (body := rb31) rfl ?_
 unfold rb31
 have hG := good_of hS
 have hsz : n ≤ 200 := hG.size
 have hL : 0 ≤ L ∧ L ≤ 200 := hG.loops
 have h1 := of_ hE (c := c) (hx.ext (Ext.snoc h0 [O.cells [.slice a n c, .int .i64 L] 24 (some 0)])) hS
 simp [dV] at h1
 simp [dV, rdN_at0]
 refine h1.imp ?_
 rintro o ⟨h2, f2⟩ ⟨rfl, hf, hs, xs, hat, k, hO, hk⟩
 simp only at hf hs hat
 have hbox : h2[h0.length]? = some (O.cells [.slice a n c, .int .i64 L] 24 (some 0)) := hs _ _ (app_at0 _ _)
 obtain ⟨m, hm⟩ : ∃ m, m = h0.length + 1 + 1 := ⟨_, rfl⟩
 have hlen := hO.len
 unfold AtB at hat
 simp [joined_fl, hf]
 rw [← hm] at hat ⊢
 refine DW_loop (fun kk fr st => ∃ (i w : Nat), i + kk = 2 * n ∧ st = ⟨h2, h0.length⟩ ∧ (∀ j, j < i → nth xs j + 1 ≤ w) ∧ w ≤ k ∧ get fr 1 = .pointer (some ⟨h0.length, 0, none⟩) ∧ get fr 3 = .slice (some ⟨m, 0, none⟩) (2 * n) (2 * n) ∧ get fr 4 = .int .i64 w ∧ get fr 5 = .int .i64 i) ?_ (k := 2 * n) ?_
 ·rintro kk fr st ⟨i, w, hik, rfl, hw, hwk, g1, g3, g4, g5⟩
  by_cases hi : i < 2 * n
  ·have hi' : (i : Int) < 2 * n := by omega
   have hwr : IntKind.i64.wrap ((i : Int) + 1) = (i : Int) + 1 := by rw [w64_id] <;> omega
   have hi2 : i < xs.length := by omega
   have hd := hO.done i hi
   have hv : nth xs i < k := by rcases hO.val i hi with h | h <;> omega
   have hwr2 : IntKind.i64.wrap (nth xs i + 1) = nth xs i + 1 := by rw [w64_id] <;> omega
   simp [g1, g3, g4, g5, hi, hi', rd_def, hat, intsC_get hi2, hwr, hwr2]
   refine ⟨kk - 1, by omega, i + 1, by omega, max w ((nth xs i).toNat + 1), fun j hj => ?_, by omega, by omega, by omega⟩
   by_cases e : j = i
   ·rw [e]; omega
   ·have := hw j (by omega); omega
  ·have hin : i = 2 * n := by omega
   have hi' : ¬ (i : Int) < 2 * n := by omega
   have hwk2 : w = k := by
    apply Classical.byContradiction
    intro hne
    obtain ⟨a', ha1, ha2, _⟩ := hO.ord w (by omega)
    have := hw a' (by omega)
    omega
   have hwr : IntKind.i64.wrap ((k : Int) + L) = k + L := by rw [w64_id] <;> omega
   subst hwk2
   simp [g1, g3, g4, g5, hi', rd_def, hbox, hwr, back_scalar, Out.scalar, scalar, flat1, flat]
   exact ⟨⟨xs, hO⟩, hk⟩
 ·exact ⟨0, 0, by omega, rfl, fun j hj => by omega, by omega, by simp⟩
end Go.Proofs.Ytjlkndkedknocaa
namespace Go.Ai
theorem slice_read {h : List O} {b size n : Nat} {cs : List Value} {el : TypeId} {own : Option Nat} (hb : h[b]? = some (.cells cs el own)) (hl : cs.length = n * size) : readSlice h size n (some ⟨b, 0, none⟩) = some cs := by
 simp only [readSlice]
 split
 ·rename_i h0'
  have : cs = [] := List.length_eq_zero_iff.1 (by omega)
  rw [this]
 ·simp [rdN, hb, hl]
  exact List.take_of_length_le (by omega)
def OwnT (h : List O) (lo : Nat) (v : Value) (k : Nat) (cs : List Value) (el : TypeId) (size : Nat) : Prop := (v = emptyS ∧ k = 0 ∧ cs = []) ∨ OwnS h lo v k cs el size
theorem OwnT.keep {h h' : List O} {lo k : Nat} {v : Value} {cs : List Value} {el : TypeId} {size : Nat} (ho : OwnT h lo v k cs el size) (hk : ∀ b s, v = .slice (some ⟨b, 0, none⟩) k k → lo ≤ b → h[b]? = some (.cells cs el (some s)) → h'[b]? = some (.cells cs el (some s))) : OwnT h' lo v k cs el size := by
 rcases ho with h1 | ⟨h0, h1 | ⟨b, s, h1, h2, h3, h4⟩⟩
 ·exact .inl h1
 ·exact .inr ⟨h0, .inl h1⟩
 ·exact .inr ⟨h0, .inr ⟨b, s, h1, h2, hk b s h1 h2 h3, h4⟩⟩
theorem OwnT.len {h : List O} {lo k : Nat} {v : Value} {cs : List Value} {el : TypeId} {size : Nat} (ho : OwnT h lo v k cs el size) : cs.length = k * size := by
 rcases ho with ⟨_, rfl, rfl⟩ | h1
 ·simp
 ·exact h1.1
theorem OwnT.look {h : List O} {lo k : Nat} {v : Value} {cs : List Value} {el : TypeId} {size : Nat} (ho : OwnT h lo v k cs el size) : ∃ a, v = .slice a k k ∧ (0 < k → ∃ b s, a = some ⟨b, 0, none⟩ ∧ lo ≤ b ∧ h[b]? = some (.cells cs el (some s))) := by
 rcases ho with ⟨rfl, rfl, rfl⟩ | ⟨_, ⟨rfl, rfl⟩ | ⟨b, s, rfl, h2, h3, h4⟩⟩
 ·exact ⟨_, rfl, fun h => absurd h (by omega)⟩
 ·exact ⟨_, rfl, fun h => absurd h (by omega)⟩
 ·exact ⟨_, rfl, fun _ => ⟨b, s, rfl, h2, h3⟩⟩
theorem append_T {H : List O} {lo k n fl c : Nat} {v : Value} {cs new : List Value} {el : TypeId} {size bytes : Nat} {xb : Option Addr}
  (ho : OwnT H lo v k cs el size) (hx : readSlice H size n xb = some new) (hnew : new.length = n * size) (hone : new.all one1 = true) (hlo : lo ≤ H.length) (hroom : (k + n) * bytes ≤ roomMax) (hn : 0 < n) :
  ∃ b' H' fl', appendV el size bytes v (.slice xb n c) ⟨H, fl⟩ = some (.slice (some ⟨b', 0, none⟩) (k + n) (k + n), ⟨H', fl'⟩) ∧ H.length ≤ b' ∧ OwnT H' lo (.slice (some ⟨b', 0, none⟩) (k + n) (k + n)) (k + n) (cs ++ new) el size ∧ min fl lo ≤ fl' ∧ fl' ≤ fl ∧ H.length ≤ H'.length ∧
   (∀ (b : Nat) (o : O), H[b]? = some o → (b < lo ∨ ∀ c : List Value, ∀ s, o ≠ .cells c el s) → H'[b]? = some o) := by
 rcases ho with ⟨rfl, rfl, rfl⟩ | ho
 ·refine ⟨H.length, H ++ [.cells ([] ++ new) el (some size)], fl, ?_, Nat.le_refl _, .inr ⟨?_, .inr ⟨H.length, size, rfl, hlo, ?_, .inr rfl⟩⟩, by omega, Nat.le_refl _, by simp, fun b o e _ => app_of e _⟩
  ·simp only [appendV, emptyS, hx, bind, Option.bind_some, appendCells]
   rw [if_neg (by omega), if_neg (by omega), if_pos ⟨hroom, hone⟩]
   simp [readSlice, kill]
  ·simp [hnew]
  ·simp
 ·obtain ⟨b', H', fl', h1, h2, h3, h4, h5, h6, h7⟩ := append_S (fl := fl) (c := c) (bytes := bytes) ho hx hnew hone hlo hroom hn
  refine ⟨b', H', fl', h1, h2, .inr h3, h4, h5, h6, fun b o e hd => h7 b o e fun n' c' ev => ?_⟩
  subst ev
  rcases ho.2 with ⟨e1, _⟩ | ⟨b2, s, e1, e2, e3, _⟩
  ·cases e1
  ·simp only [Value.slice.injEq, Option.some.injEq, Addr.mk.injEq] at e1
   obtain ⟨⟨rfl, _⟩, _⟩ := e1
   rw [e3] at e
   obtain rfl := Option.some.inj e
   rcases hd with hd | hd
   ·omega
   ·exact hd _ _ rfl
end Go.Ai
namespace Go.Proofs.Ytjlkndkedknocaa
open Go Go.Ai
attribute [local instance] Classical.propDecidable
theorem cellsL_length (l : List (Nat × Nat)) : (cellsL l).length = l.length * 2 := by
 induction l with
 | nil => rfl
 | cons x l ih =>
  have : cellsL (x :: l) = cells2 x ++ cellsL l := rfl
  rw [this, List.length_append, ih]; simp [cells2]; omega
theorem cellsL_at {l : List (Nat × Nat)} {j : Nat} {x : Nat × Nat} (h : l[j]? = some x) : ((cellsL l).drop (j * 2)).take 2 = cells2 x := by
 induction l generalizing j with
 | nil => simp at h
 | cons y l ih =>
  have e : cellsL (y :: l) = .int .i64 y.1 :: .int .i64 y.2 :: cellsL l := rfl
  rw [e]
  cases j with
  | zero => simp at h; subst h; rfl
  | succ j =>
   rw [show (j + 1) * 2 = j * 2 + 2 by omega, List.drop_succ_cons, List.drop_succ_cons]
   exact ih (by simpa using h)
theorem orbN_at {G : Dg} {e : Nat × Nat} {i j : Nat} (h : j < i) : (orbN G e i)[j]? = some (orb G e j) := by simp [orbN, h]
variable {E : Env} (hE : OE E)
include hE
theorem has_ {h : List O} {b n c : Nat} {l : List (Nat × Nat)} {el : TypeId} {own : Option Nat} (hb : 0 < n → h[b]? = some (.cells (cellsL l) el own)) (hn : l.length = n) (hlt : n < 1000000) (e : Nat × Nat) :
  DR E 225 [.slice (some ⟨b, 0, none⟩) n c, endV e] ⟨h, h.length⟩ (.ret (.bool (decide (e ∈ l)))) ⟨h, h.length⟩ := by
 refine hE.fn (body := rb225) rfl ?_
 unfold rb225
 simp [endV]
 obtain ⟨hB, hhB⟩ : ∃ H, H = h ++ [O.cells [.int .i64 e.1, .int .i64 e.2] 72 (some 0)] := ⟨_, rfl⟩
 have sB : Sub h hB := by rw [hhB]; exact (Sub.refl _).app _
 have bB : hB[h.length]? = some (O.cells [.int .i64 e.1, .int .i64 e.2] 72 (some 0)) := by rw [hhB, app_at0]; rfl
 rw [← hhB]
 have hcl := cellsL_length l
 refine DW_loop (fun kk fr st => ∃ (i : Nat), i + kk = n ∧ st = ⟨hB, h.length⟩ ∧ (∀ j, j < i → l[j]? ≠ some e) ∧ get fr 0 = .slice (some ⟨b, 0, none⟩) n c ∧ get fr 3 = .pointer (some ⟨h.length, 0, none⟩) ∧ get fr 5 = .int .i64 i) ?_ (k := n) ?_
 ·rintro kk fr st ⟨i, hik, rfl, hm, g0, g3, g5⟩
  by_cases hi : i < n
  ·have hw : IntKind.i64.wrap ((i : Int) + 1) = (i : Int) + 1 := by rw [w64_id] <;> omega
   obtain ⟨y, hy⟩ : ∃ y, l[i]? = some y := ⟨l[i], by simp⟩
   have hat := sB _ _ (hb (by omega))
   have hc := cellsL_at hy
   simp only [cells2] at hc
   have hle : i * 2 + 2 ≤ (cellsL l).length := by omega
   by_cases hv : y = e
   ·subst hv
    simp [g0, g3, g5, hi, rdN_def, hat, bB, hc, hle, back_scalar, Out.scalar, scalar, flat1, flat]
    exact List.mem_of_getElem? hy
   ·have hv' : (decide (y.1 = e.1) && decide (y.2 = e.2)) = false := by
     rw [Bool.and_eq_false_iff, decide_eq_false_iff_not, decide_eq_false_iff_not]
     by_cases h1 : y.1 = e.1
     ·exact .inr fun h2 => hv (Prod.ext h1 h2)
     ·exact .inl h1
    simp [g0, g3, g5, hi, rdN_def, hat, bB, hc, hle, hw, hv']
    refine ⟨kk - 1, by omega, i + 1, by omega, fun j hj => ?_, by omega⟩
    by_cases ej : j = i
    ·rw [ej, hy]; exact fun e' => hv (Option.some.inj e')
    ·exact hm j (by omega)
  ·have hin : i = n := by omega
   subst hin
   simp [g0, g3, g5, back_scalar, Out.scalar, scalar, flat1, flat]
   intro hmem
   obtain ⟨j, hj, hje⟩ := List.getElem_of_mem hmem
   exact hm j (by omega) (by rw [List.getElem?_eq_getElem hj, hje])
 ·exact ⟨0, by omega, rfl, fun j h => by omega, by simp⟩
end Go.Proofs.Ytjlkndkedknocaa
namespace Go.Proofs.Ytjlkndkedknocaa
open Go Go.Ai
attribute [local instance] Classical.propDecidable
variable {E : Env} (hE : OE E)
include hE
theorem region_ {h0 : List O} {a : Option Addr} {n c : Nat} {x : Nat → Nat → Int} {s : Nat → Int} {L : Int} (hx : CrossP h0 a n x s) (hS : Snd n x s L) {e : Nat × Nat} (he : InV (dgOf n x s L) e) :
  DC E 199 [dV a n c L, endV e] ⟨h0, h0.length⟩ fun o st' => ∃ v, o = .ret v ∧ h0.length ≤ st'.fl ∧ Sub h0 st'.h ∧ OwnS st'.h h0.length v (per (dgOf n x s L) e) (cellsL (orbL (dgOf n x s L) e)) 72 2 := by
 refine hE.fnC (body := rb199) rfl ?_
 unfold rb199
 have hG := good_of hS
 have hoth := fun {y : Nat × Nat} (hy : InV (dgOf n x s L) y) h k => other_ hE (h0 := h) (a := a) (x := x) (c := c) k hS hy
 simp only [dV, endV] at hoth
 obtain ⟨G, hGe⟩ : ∃ G, G = dgOf n x s L := ⟨_, rfl⟩
 rw [← hGe] at hG he ⊢
 simp only [← hGe] at hoth
 have hGn : G.n = n := by rw [hGe]; rfl
 have hsz := hG.size
 obtain ⟨⟨hm, hmend, hm4⟩, hmid⟩ := per_spec hG he
 simp [dV, endV, rdN_at0, rdN_at, List.append_assoc]
 obtain ⟨hB, hhB⟩ : ∃ H, H = h0 ++ [O.cells [.slice a n c, .int .i64 L] 24 (some 0), O.cells [.int .i64 e.1, .int .i64 e.2] 72 (some 0)] := ⟨_, rfl⟩
 have lB : hB.length = h0.length + 2 := by rw [hhB]; simp
 have sB : Sub h0 hB := by rw [hhB]; exact (Sub.refl _).app _
 have bB : hB[h0.length]? = some (O.cells [.slice a n c, .int .i64 L] 24 (some 0)) := by rw [hhB, app_at0]; rfl
 have bE : hB[h0.length + 1]? = some (O.cells [.int .i64 e.1, .int .i64 e.2] 72 (some 0)) := by rw [hhB, app_at]; rfl
 refine DW_loop (fun kk fr st => ∃ (i : Nat) (h : List O) (bi : Nat), i + kk = per G e ∧ 0 < i ∧ st = ⟨h, h0.length⟩ ∧ Sub hB h ∧ OwnS h hB.length (.slice (some ⟨bi, 0, none⟩) i i) i (cellsL (orbN G e i)) 72 2 ∧ get fr 2 = .pointer (some ⟨h0.length, 0, none⟩) ∧ get fr 3 = .pointer (some ⟨h0.length + 1, 0, none⟩) ∧ get fr 5 = .slice (some ⟨bi, 0, none⟩) i i) ?_ (k := per G e - 1) ?_
 ·rintro kk fr st ⟨i, h, bi, hik, hi0, rfl, hsub, hown, g2, g3, g5⟩
  have hsl := hsub.len
  obtain ⟨hlo, sz, hcell⟩ := hown.at_
  obtain ⟨j, rfl⟩ : ∃ j, i = j + 1 := ⟨i - 1, by omega⟩
  have hy := orb_inV hG he j
  have hot := hoth hy
  have hcat : ((cellsL (orbN G e (j + 1))).drop (j * 2)).take 2 = [.int .i64 (orb G e j).1, .int .i64 (orb G e j).2] := cellsL_at (orbN_at (Nat.lt_succ_self j))
  have hcl : j * 2 + 2 ≤ (cellsL (orbN G e (j + 1))).length := by rw [cellsL_length, orbN_length]; omega
  have hon := oth_spec hG hy
  have h2lt := hon.1.2.1
  obtain ⟨o1, ho1⟩ : ∃ o1, o1 = oth G (orb G e j) := ⟨_, rfl⟩
  have hg : orb G e (j + 1) = (o1.1, (o1.2 + 3) % 4) := by rw [ho1]; rfl
  rw [← ho1] at hot h2lt
  have hb2 : h[h0.length]? = some (O.cells [.slice a n c, .int .i64 L] 24 (some 0)) := hsub _ _ bB
  have hbe : h[h0.length + 1]? = some (O.cells [.int .i64 e.1, .int .i64 e.2] 72 (some 0)) := hsub _ _ bE
  have hcs : CrossP h a n x s := hx.sub (sB.trans hsub)
  have hwm : IntKind.i64.wrap (j : Int) = j := by rw [w64_id] <;> omega
  have hwp : IntKind.i64.wrap ((o1.2 : Int) + 3) = (o1.2 : Int) + 3 := by rw [w64_id] <;> omega
  have hmod : ((o1.2 : Int) + 3).tmod 4 = ((o1.2 + 3) % 4 : Nat) := tmod_add _ 3 4
  obtain ⟨w, hww⟩ : ∃ w, w = (o1.2 + 3) % 4 := ⟨_, rfl⟩
  rw [← hww] at hmod hg
  have hj1 : (j : Int) < (j : Int) + 1 := by omega
  have hE1 : ∀ l, (h ++ l)[h0.length + 1]? = some (O.cells [.int .i64 e.1, .int .i64 e.2] 72 (some 0)) := fun l => app_of hbe l
  have hmin : min h0.length h.length = h0.length := by omega
  have hmin2 : min h0.length (h.length + 1) = h0.length := by omega
  have hdec : (Nat.testBit 511 7 = true ∧ (Nat.testBit 511 6 = false → ¬h.length = bi) ∧ (Nat.testBit 511 3 = false → ¬h.length = bi)) := ⟨by decide, fun h => absurd h (by decide), fun h => absurd h (by decide)⟩
  by_cases hend : orb G e (j + 1) = e
  ·have hper : j + 1 = per G e := by
    apply Classical.byContradiction
    intro hne
    exact hmid (j + 1) (by omega) (by omega) hend
   have he1 : o1.1 = e.1 ∧ w = e.2 := by rw [hg] at hend; rw [← hend]; exact ⟨rfl, rfl⟩
   obtain ⟨e1, e2⟩ := he1
   simp [g2, g3, g5, rd_def, rdN_def, hb2, hcell, hcl, hcat, hwm, hj1, DC_when hot, hcs, joined_fl, wrN_at0, set_at0, wrN_at, set_at, app_at0, app_at, hwp, hmod, hE1, List.append_assoc, e1, e2, endK_ret, hmin, hmin2]
   refine ⟨hdec, ?_⟩
   unfold pairQ back
   rw [if_neg (by simp [Out.scalar, scalar, flat1, flat])]
   refine ⟨_, rfl, Nat.le_refl _, (sB.trans hsub).app _, ?_⟩
   have ho2 : OwnS (h ++ [O.cells [.int .i64 e.1, .int .i64 o1.2] 72 (some 0), O.cells [.int .i64 e.1, .int .i64 e.2] 72 (some 0)]) hB.length (.slice (some ⟨bi, 0, none⟩) (j + 1) (j + 1)) (j + 1) (cellsL (orbN G e (j + 1))) 72 2 := hown.keep fun b s _ k => app_of k _
   rw [show orbL G e = orbN G e (j + 1) by rw [hper]; rfl, ← hper]
   obtain ⟨q1, q2⟩ := ho2
   rcases q2 with q2 | ⟨b, s', q2, q3, q4, q5⟩
   ·exact ⟨q1, .inl q2⟩
   ·exact ⟨q1, .inr ⟨b, s', q2, by omega, q4, q5⟩⟩
  ·have hne : (decide (o1.1 = e.1) && decide (w = e.2)) = false := by
    rw [Bool.and_eq_false_iff, decide_eq_false_iff_not, decide_eq_false_iff_not]
    by_cases h1 : o1.1 = e.1
    ·exact .inr fun h2 => hend (by rw [hg]; exact Prod.ext h1 h2)
    ·exact .inl h1
   have hjp : j + 1 < per G e := by
    rcases Nat.lt_or_ge (j + 1) (per G e) with h | h
    ·exact h
    ·exact absurd (by rw [show j + 1 = per G e by omega]; exact hmend) hend
   obtain ⟨H3, hH3⟩ : ∃ H, H = h ++ [O.cells [.int .i64 o1.1, .int .i64 o1.2] 72 (some 0), O.cells [.int .i64 o1.1, .int .i64 w] 72 (some 0), O.cells [.int .i64 o1.1, .int .i64 w] 72 (some 0)] := ⟨_, rfl⟩
   have S3 : Sub h H3 := by rw [hH3]; exact (Sub.refl _).app _
   have ho3 : OwnS H3 hB.length (.slice (some ⟨bi, 0, none⟩) (j + 1) (j + 1)) (j + 1) (cellsL (orbN G e (j + 1))) 72 2 := hown.keep fun b s _ k => S3 _ _ k
   have hrd : readSlice H3 2 1 (some ⟨h.length + 2, 0, none⟩) = some [.int .i64 o1.1, .int .i64 w] := slice_read (by rw [hH3, app_at]; rfl) rfl
   have l3 : h.length ≤ H3.length := S3.len
   obtain ⟨b', H4, f4, happ, hb', hown4, hf1, hf2, hl4, hk4⟩ := append_S (fl := h0.length) (c := 1) (bytes := 16) ho3 hrd rfl rfl (by omega) (by simp only [roomMax]; omega) (by omega)
   have hf4 : f4 = h0.length := by omega
   have hdrop : ∀ (l : List (Nat × Nat)) (y : Nat × Nat), cellsL l ++ [.int .i64 y.1, .int .i64 y.2] = cellsL (l ++ [y]) := fun l y => (cellsL_app l y).symm
   simp [g2, g3, g5, rd_def, rdN_def, hb2, hcell, hcl, hcat, hwm, hj1, DC_when hot, hcs, joined_fl, wrN_at0, set_at0, wrN_at, set_at, app_at0, app_at, hwp, hmod, hE1, List.append_assoc, hne, endK_ret, hmin, hmin2, ← hH3, happ, hf4]
   refine ⟨hdec, kk - 1, by omega, j + 1 + 1, by omega, by omega, fun b o hb => hk4 b o (S3 _ _ (hsub _ _ hb)) fun n' c' ev => ?_, b', ?_, rfl, rfl⟩
   ·have := (List.getElem?_eq_some_iff.1 hb).1
    simp only [Value.slice.injEq, Option.some.injEq, Addr.mk.injEq] at ev
    omega
   ·rw [orbN_succ, hg, cellsL_app]
    exact hown4
 ·refine ⟨1, h0 ++ [O.cells [.slice a n c, .int .i64 L] 24 (some 0), O.cells [.int .i64 e.1, .int .i64 e.2] 72 (some 0), O.cells [.int .i64 e.1, .int .i64 e.2] 72 (some 0)], h0.length + 2, by omega, by omega, rfl, ?_, ?_, ?_⟩
  ·rw [hhB]; exact Ext.sub ⟨[O.cells [.int .i64 e.1, .int .i64 e.2] 72 (some 0)], by simp⟩
  ·refine ⟨rfl, .inr ⟨_, 0, rfl, by omega, ?_, .inl rfl⟩⟩
   rw [app_at]; rfl
  ·simp
end Go.Proofs.Ytjlkndkedknocaa
namespace Go.Proofs.Ytjlkndkedknocaa
open Go Go.Ai
attribute [local instance] Classical.propDecidable
def RegsQ (h : List O) (lo : Nat) (v : Value) (L : List (List (Nat × Nat))) : Prop :=
 ∃ vs, OwnT h lo v L.length vs 215 1 ∧ ∀ (i : Nat) r, L[i]? = some r → ∃ v', vs[i]? = some v' ∧ OwnS h lo v' r.length (cellsL r) 72 2
theorem RegsQ.keep {h h' : List O} {lo : Nat} {v : Value} {L : List (List (Nat × Nat))} (k : RegsQ h lo v L) (hk : Sub h h') : RegsQ h' lo v L := by
 obtain ⟨vs, h1, h2⟩ := k
 refine ⟨vs, h1.keep fun b s _ _ e => hk _ _ e, fun i r hr => ?_⟩
 obtain ⟨v', h3, h4⟩ := h2 i r hr
 exact ⟨v', h3, h4.keep fun b s _ e => hk _ _ e⟩
theorem RegsQ.low {h : List O} {lo lo' : Nat} {v : Value} {L : List (List (Nat × Nat))} (k : RegsQ h lo v L) (hl : lo' ≤ lo) : RegsQ h lo' v L := by
 have low : ∀ {v k cs el size}, OwnS h lo v k cs el size → OwnS h lo' v k cs el size := fun ⟨h0, h1⟩ => by
  rcases h1 with h1 | ⟨b, s, h1, h2, h3⟩
  ·exact ⟨h0, .inl h1⟩
  ·exact ⟨h0, .inr ⟨b, s, h1, Nat.le_trans hl h2, h3⟩⟩
 obtain ⟨vs, h1, h2⟩ := k
 refine ⟨vs, ?_, fun i r hr => ?_⟩
 ·rcases h1 with h1 | h1
  ·exact .inl h1
  ·exact .inr (low h1)
 ·obtain ⟨v', h3, h4⟩ := h2 i r hr
  exact ⟨v', h3, low h4⟩
theorem RegsQ.at_ {h : List O} {lo : Nat} {v : Value} {L : List (List (Nat × Nat))} (k : RegsQ h lo v L) : ∃ a, v = .slice a L.length L.length ∧
  ∀ (i : Nat) r, L[i]? = some r → r ≠ [] → ∃ b b' s s' vs, a = some ⟨b, 0, none⟩ ∧ lo ≤ b ∧ lo ≤ b' ∧ h[b]? = some (.cells vs 215 (some s)) ∧ vs[i]? = some (.slice (some ⟨b', 0, none⟩) r.length r.length) ∧ h[b']? = some (.cells (cellsL r) 72 (some s')) := by
 obtain ⟨vs, h1, h2⟩ := k
 obtain ⟨a, rfl, ha⟩ := h1.look
 refine ⟨a, rfl, fun i r hr hne => ?_⟩
 have hi := (List.getElem?_eq_some_iff.1 hr).1
 obtain ⟨b, s, rfl, hb1, hb2⟩ := ha (by omega)
 obtain ⟨v', h3, h4, h5⟩ := h2 i r hr
 rcases h5 with ⟨_, h6⟩ | ⟨b', s', rfl, h7, h8, _⟩
 ·exact absurd (List.length_eq_zero_iff.1 h6) hne
 ·exact ⟨b, b', s, s', vs, rfl, hb1, h7, hb2, h3, h8⟩
theorem RegsQ.push {h : List O} {lo fl c : Nat} {v v' : Value} {xb : Option Addr} {L : List (List (Nat × Nat))} {r : List (Nat × Nat)} (k : RegsQ h lo v L) (ho : OwnS h lo v' r.length (cellsL r) 72 2) (hx : readSlice h 1 1 xb = some [v']) (hone : one1 v' = true) (hlo : lo ≤ h.length) (hroom : (L.length + 1) * 24 ≤ roomMax) :
  ∃ b' h' fl', appendV 215 1 24 v (.slice xb 1 c) ⟨h, fl⟩ = some (.slice (some ⟨b', 0, none⟩) (L.length + 1) (L.length + 1), ⟨h', fl'⟩) ∧ RegsQ h' lo (.slice (some ⟨b', 0, none⟩) (L.length + 1) (L.length + 1)) (L ++ [r]) ∧ min fl lo ≤ fl' ∧ fl' ≤ fl ∧ h.length ≤ h'.length ∧
   (∀ (b : Nat) (o : O), h[b]? = some o → (b < lo ∨ ∀ c : List Value, ∀ s, o ≠ .cells c 215 s) → h'[b]? = some o) := by
 obtain ⟨vs, h1, h2⟩ := k
 have hl := h1.len
 obtain ⟨b', h', fl', e1, e2, e3, e4, e5, e6, hs⟩ := append_T (fl := fl) (c := c) (bytes := 24) h1 hx rfl (by simp [hone]) hlo hroom (by omega)
 have keep : ∀ {v k cs}, OwnS h lo v k cs 72 2 → OwnS h' lo v k cs 72 2 := fun h => h.keep fun b s _ e => hs _ _ e (.inr fun c s' e' => by cases e')
 refine ⟨b', h', fl', e1, ⟨vs ++ [v'], by rw [List.length_append]; exact e3, fun i q hq => ?_⟩, e4, e5, e6, hs⟩
 by_cases hi : i < L.length
 ·rw [List.getElem?_append_left hi] at hq
  obtain ⟨v2, h3, h4⟩ := h2 i q hq
  exact ⟨v2, by rw [List.getElem?_append_left (by omega)]; exact h3, keep h4⟩
 ·rw [List.getElem?_append_right (by omega)] at hq
  have e0 : i - L.length = 0 := by
   rcases Nat.eq_zero_or_pos (i - L.length) with h | h
   ·exact h
   ·rw [List.getElem?_eq_none (by simp; omega)] at hq; cases hq
  rw [e0] at hq
  obtain rfl := Option.some.inj hq
  exact ⟨v', by rw [List.getElem?_append_right (by omega), show i - vs.length = 0 by omega]; rfl, keep ho⟩
theorem OwnS.low {h : List O} {lo lo' k : Nat} {v : Value} {cs : List Value} {el : TypeId} {size : Nat} (ho : OwnS h lo v k cs el size) (hl : lo' ≤ lo) : OwnS h lo' v k cs el size := by
 obtain ⟨h0, h1⟩ := ho
 rcases h1 with h1 | ⟨b, s, h1, h2, h3⟩
 ·exact ⟨h0, .inl h1⟩
 ·exact ⟨h0, .inr ⟨b, s, h1, Nat.le_trans hl h2, h3⟩⟩
theorem RegsQ.scalar {h : List O} {lo : Nat} {v : Value} {L : List (List (Nat × Nat))} (k : RegsQ h lo v L) (hs : Ai.scalar v = true) : L = [] ∧ ∀ h', RegsQ h' lo v L := by
 obtain ⟨vs, h1, h2⟩ := k
 rcases h1 with ⟨rfl, h3, rfl⟩ | ⟨h4, ⟨rfl, h5⟩ | ⟨b, s, rfl, h6⟩⟩
 ·have : L = [] := List.length_eq_zero_iff.1 h3
  subst this
  exact ⟨rfl, fun h' => ⟨[], .inl ⟨rfl, rfl, rfl⟩, fun i r h => by simp at h⟩⟩
 ·have : L = [] := List.length_eq_zero_iff.1 h5
  subst this
  exact ⟨rfl, fun h' => ⟨vs, .inr ⟨h4, .inl ⟨rfl, rfl⟩⟩, fun i r h => by simp at h⟩⟩
 ·simp [Ai.scalar, flat1, flat] at hs
theorem vis_flat (G : Dg) (e : Nat × Nat) : ∀ j, e ∈ (vis G j).1 ↔ ∃ (i : Nat) (r : List (Nat × Nat)), (vis G j).2[i]? = some r ∧ e ∈ r := by
 have hfl : ∀ j, (vis G j).1 = (vis G j).2.flatten := by
  intro j
  induction j with
  | zero => rfl
  | succ j ih =>
   simp only [vis]
   by_cases hx : endOf j ∈ (vis G j).1
   ·rw [if_pos hx]; exact ih
   ·rw [if_neg hx]; simp [ih]
 intro j
 rw [hfl, List.mem_flatten]
 constructor
 ·rintro ⟨r, hr, he⟩
  obtain ⟨i, hi, rfl⟩ := List.getElem_of_mem hr
  exact ⟨i, _, List.getElem?_eq_getElem hi, he⟩
 ·rintro ⟨i, r, hr, he⟩
  exact ⟨r, List.mem_of_getElem? hr, he⟩
theorem vis_ne {G : Dg} (hG : GoodG G) {j i : Nat} (hj : j ≤ 4 * G.n) {r : List (Nat × Nat)} (h : (vis G j).2[i]? = some r) : r ≠ [] ∧ r.length ≤ 4 * G.n := by
 obtain ⟨e, he, rfl⟩ := vis_reg hG j hj r (List.mem_of_getElem? h)
 have := per_spec hG he
 have hl : (orbL G e).length = per G e := orbN_length _ _ _
 refine ⟨fun h0 => ?_, by rw [hl]; exact this.1.2.2⟩
 rw [h0] at hl
 simp at hl
 omega
end Go.Proofs.Ytjlkndkedknocaa
namespace Go.Proofs.Ytjlkndkedknocaa
open Go Go.Ai
attribute [local instance] Classical.propDecidable
variable {E : Env} (hE : OE E)
include hE
theorem regionsR_ {h0 : List O} {a : Option Addr} {n c : Nat} {x : Nat → Nat → Int} {s : Nat → Int} {L : Int} (hx : CrossP h0 a n x s) (hS : Snd n x s L) :
  DC E 175 [dV a n c L] ⟨h0, h0.length⟩ fun o st' => ∃ v, o = .ret v ∧ h0.length ≤ st'.fl ∧ Sub h0 st'.h ∧ RegsQ st'.h h0.length v (regs (dgOf n x s L)) := by
 refine hE.fnC (body := rb175) rfl ?_
 unfold rb175
 have hG := good_of hS
 have hreg := fun {y : Nat × Nat} (hy : InV (dgOf n x s L) y) h k => region_ hE (h0 := h) (a := a) (x := x) (c := c) k hS hy
 simp only [dV, endV] at hreg
 obtain ⟨G, hGe⟩ : ∃ G, G = dgOf n x s L := ⟨_, rfl⟩
 rw [← hGe] at hG ⊢
 simp only [← hGe] at hreg
 have hGn : G.n = n := by rw [hGe]; rfl
 have hsz := hG.size
 rw [hGn] at hsz
 obtain ⟨hB, hhB⟩ : ∃ H, H = h0 ++ [O.cells [.slice a n c, .int .i64 L] 24 (some 0)] := ⟨_, rfl⟩
 have lB : hB.length = h0.length + 1 := by rw [hhB]; simp
 have sB : Sub h0 hB := by rw [hhB]; exact (Sub.refl _).app _
 have bB : hB[h0.length]? = some (O.cells [.slice a n c, .int .i64 L] 24 (some 0)) := by rw [hhB, app_at0]; rfl
 simp [dV]
 rw [← hhB]
 refine DW_loop (fun kk fr st => ∃ (i : Nat) (h : List O) (v : Value), i + kk = n ∧ st = ⟨h, h0.length⟩ ∧ Sub hB h ∧ RegsQ h hB.length v (vis G (4 * i)).2 ∧ get fr 1 = .pointer (some ⟨h0.length, 0, none⟩) ∧ get fr 3 = v ∧ get fr 4 = .int .i64 i) ?_ (k := n) ?_
 ·rintro kk fr st ⟨i, h, v, hik, rfl, hsub, hR, g1, g3, g4⟩
  have hb2 : h[h0.length]? = some (O.cells [.slice a n c, .int .i64 L] 24 (some 0)) := hsub _ _ bB
  by_cases hi : i < n
  ·simp [g1, g3, g4, rd_def, hb2, hi]
   refine DW_loop (fun kk' fr st => ∃ (q : Nat) (h : List O) (v : Value), q + kk' = 4 ∧ st = ⟨h, h0.length⟩ ∧ Sub hB h ∧ RegsQ h hB.length v (vis G (4 * i + q)).2 ∧ get fr 1 = .pointer (some ⟨h0.length, 0, none⟩) ∧ get fr 3 = v ∧ get fr 4 = .int .i64 i ∧ get fr 5 = .int .i64 q) ?_ (k := 4) ?_
   ·clear hR g1 g3 g4 hb2 hsub
    clear v h
    rintro kk' fr st ⟨q, h, v, hqk, rfl, hsub, hR, g1, g3, g4, g5⟩
    by_cases hq : q < 4
    ·have hq' : (q : Int) < 4 := by omega
     have hvl := vis_len G (4 * i + q)
     obtain ⟨va, rfl, hat⟩ := hR.at_
     have hend : endOf (4 * i + q) = (i, q) := by unfold endOf; rw [Prod.mk.injEq]; omega
     have hinV : InV G (i, q) := hG.inV (by rw [hGn]; exact hi) hq
     obtain ⟨h1, hh1⟩ : ∃ H, H = h ++ [O.cells [.int .i64 i, .int .i64 q] 72 (some 0)] := ⟨_, rfl⟩
     have s1' : Sub h h1 := by rw [hh1]; exact (Sub.refl _).app _
     have b1 : h1[h.length]? = some (O.cells [.int .i64 i, .int .i64 q] 72 (some 0)) := by rw [hh1, app_at0]; rfl
     have hsl := hsub.len
     have hmin : min h0.length h.length = h0.length := by omega
     simp [g1, g3, g4, g5, hq', wrN_at0, set_at0, hmin]
     rw [← hh1]
     obtain ⟨N, hN⟩ : ∃ N, N = (vis G (4 * i + q)).2.length := ⟨_, rfl⟩
     rw [← hN] at g3 hvl
     refine DW_loop (fun kk'' fr st => ∃ (m : Nat), m + kk'' = N ∧ st = ⟨h1, h0.length⟩ ∧ get fr 1 = .pointer (some ⟨h0.length, 0, none⟩) ∧ get fr 3 = .slice va N N ∧ get fr 4 = .int .i64 i ∧ get fr 5 = .int .i64 q ∧ get fr 6 = .pointer (some ⟨h.length, 0, none⟩) ∧ get fr 7 = .bool (decide (∃ m', m' < m ∧ ∃ r, (vis G (4 * i + q)).2[m']? = some r ∧ (i, q) ∈ r)) ∧ get fr 8 = .int .i64 m) ?_ (k := N) ?_
     ·clear g1 g3 g4 g5
      rintro kk'' fr st ⟨m, hmk, rfl, g1, g3, g4, g5, g6, g7, g8⟩
      have hNlt : N ≤ 800 := by omega
      have hw : IntKind.i64.wrap ((m : Int) + 1) = (m : Int) + 1 := by rw [w64_id] <;> omega
      by_cases hm : m < N
      ·obtain ⟨r, hr⟩ : ∃ r, (vis G (4 * i + q)).2[m]? = some r := ⟨_, List.getElem?_eq_getElem (by omega)⟩
       obtain ⟨hne, hrl⟩ := vis_ne hG (j := 4 * i + q) (by omega) hr
       have hstep : (decide (∃ m', m' < m + 1 ∧ ∃ r, (vis G (4 * i + q)).2[m']? = some r ∧ (i, q) ∈ r)) = (decide (∃ m', m' < m ∧ ∃ r, (vis G (4 * i + q)).2[m']? = some r ∧ (i, q) ∈ r) || decide ((i, q) ∈ r)) := by
        rw [Bool.eq_iff_iff, Bool.or_eq_true, decide_eq_true_iff, decide_eq_true_iff, decide_eq_true_iff]
        constructor
        ·rintro ⟨m', h1, r', h2, h3⟩
         by_cases e : m' = m
         ·subst e
          rw [hr] at h2
          obtain rfl := Option.some.inj h2
          exact .inr h3
         ·exact .inl ⟨m', by omega, r', h2, h3⟩
        ·rintro (⟨m', h1, h2⟩ | h)
         ·exact ⟨m', by omega, h2⟩
         ·exact ⟨m, by omega, r, hr, h⟩
       by_cases hk : ∃ m', m' < m ∧ ∃ r, (vis G (4 * i + q)).2[m']? = some r ∧ (i, q) ∈ r
       ·rw [decide_eq_true hk] at g7 hstep
        rw [Bool.true_or] at hstep
        simp [g1, g3, g4, g5, g6, g7, g8, hm, hw]
        refine ⟨kk'' - 1, by omega, m + 1, by omega, ?_, by omega⟩
        exact of_decide_eq_true hstep
       ·rw [decide_eq_false hk] at g7 hstep
        rw [Bool.false_or] at hstep
        obtain ⟨b, b', s1, s2, vs, rfl, q1, q2, q3, q4, q5⟩ := hat m r hr hne
        have q3' := s1' _ _ q3
        have q5' := s1' _ _ q5
        have hh := fun h k => has_ hE (h := h) (b := b') (n := r.length) (c := r.length) (l := r) (el := 72) (own := some s2) (fun _ => k) rfl (by omega) (i, q)
        simp only [endV] at hh
        simp [g1, g3, g4, g5, g6, g7, g8, hm, hw, rd_def, rdN_def, q3', q4, b1, DC_when hh, q5', joined_fl]
        refine ⟨kk'' - 1, by omega, m + 1, by omega, ?_, by omega⟩
        exact (decide_eq_decide.1 hstep).symm
      ·have hin : m = N := by omega
       subst hin
       have hkn : (∃ m', m' < m ∧ ∃ r, (vis G (4 * i + q)).2[m']? = some r ∧ (i, q) ∈ r) ↔ (i, q) ∈ (vis G (4 * i + q)).1 := by
        rw [vis_flat]
        constructor
        ·rintro ⟨m', _, h⟩; exact ⟨m', h⟩
        ·rintro ⟨m', r, h1, h2⟩
         exact ⟨m', by rw [hN]; exact (List.getElem?_eq_some_iff.1 h1).1, r, h1, h2⟩
       have hwq : IntKind.i64.wrap ((q : Int) + 1) = (q : Int) + 1 := by rw [w64_id] <;> omega
       by_cases hk : (i, q) ∈ (vis G (4 * i + q)).1
       ·rw [decide_eq_true (hkn.2 hk)] at g7
        have hv : vis G (4 * i + (q + 1)) = vis G (4 * i + q) := by
         rw [← Nat.add_assoc]; simp only [vis]; rw [hend, if_pos hk]
        simp [g1, g3, g4, g5, g6, g7, g8, hwq]
        refine ⟨kk' - 1, by omega, q + 1, by omega, hsub.trans s1', _, ?_, rfl, by omega⟩
        rw [hv]; rw [← hN] at hR; exact hR.keep s1'
       ·rw [decide_eq_false (fun h => hk (hkn.1 h))] at g7
        have hv : vis G (4 * i + (q + 1)) = ((vis G (4 * i + q)).1 ++ orbL G (i, q), (vis G (4 * i + q)).2 ++ [orbL G (i, q)]) := by
         rw [← Nat.add_assoc]; simp only [vis]; rw [hend, if_neg hk]
        have hrg := hreg hinV h1 (hx.sub (sB.trans (hsub.trans s1')))
        have hb1 : h1[h0.length]? = some (O.cells [.slice a n c, .int .i64 L] 24 (some 0)) := s1' _ _ (hsub _ _ bB)
        simp [g1, g3, g4, g5, g6, g7, g8, hwq, rdN_def, hb1, b1]
        refine hrg.imp ?_
        rintro o ⟨h2, f2⟩ ⟨v, rfl, hf2, hs2, hO⟩
        simp only at hf2 hs2 hO
        have hPer := (per_spec hG hinV).1
        obtain ⟨br, sr, rfl, hbr, hbc⟩ : ∃ br sr, v = .slice (some ⟨br, 0, none⟩) (per G (i, q)) (per G (i, q)) ∧ h1.length ≤ br ∧ h2[br]? = some (.cells (cellsL (orbL G (i, q))) 72 (some sr)) := by
         rcases hO.2 with ⟨_, hz⟩ | ⟨b, s, e1, e2, e3, _⟩
         ·omega
         ·exact ⟨b, s, e1, e2, e3⟩
        obtain ⟨h3, hh3⟩ : ∃ H, H = h2 ++ [O.cells [.slice (some ⟨br, 0, none⟩) (per G (i, q)) (per G (i, q))] 215 (some 0)] := ⟨_, rfl⟩
        have s3 : Sub h2 h3 := by rw [hh3]; exact (Sub.refl _).app _
        have hR3 := ((hR.keep s1').keep hs2).keep s3
        have hl1 := s1'.len
        have hl2 := hs2.len
        have hl3 := s3.len
        have hO3 : OwnS h3 hB.length (.slice (some ⟨br, 0, none⟩) (per G (i, q)) (per G (i, q))) (orbL G (i, q)).length (cellsL (orbL G (i, q))) 72 2 := by
         rw [show (orbL G (i, q)).length = per G (i, q) from orbN_length _ _ _]
         exact OwnS.low (hO.keep fun b s _ e => s3 _ _ e) (by omega)
        have hrd : readSlice h3 1 1 (some ⟨h2.length, 0, none⟩) = some [.slice (some ⟨br, 0, none⟩) (per G (i, q)) (per G (i, q))] := slice_read (by rw [hh3, app_at0]; rfl) rfl
        obtain ⟨b', h4, f4, happ, hR4, hf4, hf4', hl4, hk4⟩ := hR3.push (fl := h0.length) (c := 1) hO3 hrd rfl (by omega) (by simp only [roomMax]; omega)
        have hf : f4 = h0.length := by omega
        rw [← hN] at happ hR4
        have hlen0 : h0.length < hB.length := by omega
        simp [joined_fl, hf2, ← hh3, happ, hf, g1, g4, g5, hwq]
        refine ⟨kk' - 1, by omega, q + 1, by omega, fun b o hb => hk4 b o (s3 _ _ (hs2 _ _ (s1' _ _ (hsub _ _ hb)))) (.inl (List.getElem?_eq_some_iff.1 hb).1), _, ?_, rfl, by omega⟩
        rw [hv]
        exact hR4
     ·refine ⟨0, by omega, rfl, ?_⟩
      simp [g1, g3, g4, g5]
    ·have hq4 : q = 4 := by omega
     subst hq4
     have hw : IntKind.i64.wrap ((i : Int) + 1) = (i : Int) + 1 := by rw [w64_id] <;> omega
     simp [g1, g3, g4, g5, hw]
     exact ⟨kk - 1, by omega, i + 1, by omega, hsub, _, by rw [Nat.mul_add]; exact hR, rfl, by omega⟩
   ·exact ⟨0, h, v, by omega, rfl, hsub, hR, by simp [g1, g3, g4]⟩
  ·have hin : i = n := by omega
   subst hin
   simp [g1, g3, g4, rd_def, hb2, endK_ret]
   unfold pairQ back
   have hR0 : RegsQ h h0.length v (regs G) := by
    have := hR.low (lo' := h0.length) (by omega)
    unfold regs
    rw [hGn]; exact this
   split
   ·rename_i hc
    rw [Bool.and_eq_true] at hc
    exact ⟨v, rfl, Nat.le_refl _, Sub.refl _, (hR0.scalar hc.1).2 _⟩
   ·exact ⟨v, rfl, Nat.le_refl _, sB.trans hsub, hR0⟩
 ·exact ⟨0, hB, emptyS, by omega, rfl, Sub.refl _, ⟨[], .inl ⟨rfl, rfl, rfl⟩, fun i r h => by simp [vis] at h⟩, by simp⟩
end Go.Proofs.Ytjlkndkedknocaa
namespace Go.Ai
attribute [local instance] Classical.propDecidable
theorem cntP_sub {p q : Nat → Prop} : ∀ {n : Nat}, (∀ i, i < n → q i → p i) → cntP q n ≤ cntP p n := by
 intro n
 induction n with
 | zero => intro _; exact Nat.le_refl _
 | succ n ih =>
  intro h
  have := ih fun i hi => h i (by omega)
  simp only [cntP]
  by_cases hq : q n
  ·rw [if_pos hq, if_pos (h n (by omega) hq)]; omega
  ·rw [if_neg hq]; omega
theorem cntP_less {p q : Nat → Prop} {i0 : Nat} (hp : p i0) (hq : ¬ q i0) : ∀ {n : Nat}, (∀ i, i < n → q i → p i) → i0 < n → cntP q n < cntP p n := by
 intro n
 induction n with
 | zero => intro _ h; omega
 | succ n ih =>
  intro h hi
  have hs := cntP_sub (n := n) fun i hi => h i (show i < n + 1 by omega)
  simp only [cntP]
  by_cases e : i0 = n
  ·subst e
   rw [if_neg hq, if_pos hp]; omega
  ·have := ih (fun i hi => h i (by omega)) (by omega)
   by_cases hq : q n
   ·rw [if_pos hq, if_pos (h n (by omega) hq)]; omega
   ·rw [if_neg hq]; omega
theorem OwnT.scalar {h : List O} {lo k : Nat} {v : Value} {cs : List Value} {el : TypeId} {size : Nat} (ho : OwnT h lo v k cs el size) (hs : Ai.scalar v = true) (h' : List O) : OwnT h' lo v k cs el size := by
 rcases ho with h1 | ⟨h4, ⟨rfl, h5⟩ | ⟨b, s, rfl, h6⟩⟩
 ·exact .inl h1
 ·exact .inr ⟨h4, .inl ⟨rfl, h5⟩⟩
 ·simp [Ai.scalar, flat1, flat] at hs
theorem OwnT.low {h : List O} {lo lo' k : Nat} {v : Value} {cs : List Value} {el : TypeId} {size : Nat} (ho : OwnT h lo v k cs el size) (hl : lo' ≤ lo) : OwnT h lo' v k cs el size := by
 rcases ho with h1 | ⟨h0, h1⟩
 ·exact .inl h1
 ·rcases h1 with h1 | ⟨b, s, h1, h2, h3⟩
  ·exact .inr ⟨h0, .inl h1⟩
  ·exact .inr ⟨h0, .inr ⟨b, s, h1, Nat.le_trans hl h2, h3⟩⟩
end Go.Ai
namespace Go.Proofs.Ytjlkndkedknocaa
open Go Go.Ai
attribute [local instance] Classical.propDecidable
noncomputable def outN (bs : List Bool) (n : Nat) : Nat := cntP (fun i => bnth bs i = false) n
structure PcI (G : Dg) (c : Nat) (bs : List Bool) : Prop where
 len : bs.length = G.n
 root : bnth bs c = true
 conn : ∀ i, i < G.n → bnth bs i = true → Conn G c i
def Cl (G : Dg) (bs : List Bool) (k j : Nat) : Prop := ∀ k' q, k' < G.n → q < 4 → (k' < k ∨ k' = k ∧ q < j) → bnth bs k' = true → bnth bs (oth G (k', q)).1 = true
theorem Cl.step {G : Dg} {bs : List Bool} {k j : Nat} (h : Cl G bs k j) (hb : bnth bs (oth G (k, j)).1 = true) : Cl G bs k (j + 1) := by
 intro k' q h1 h2 h3 h4
 by_cases e : k' = k ∧ q = j
 ·rw [e.1, e.2]; exact hb
 ·exact h k' q h1 h2 (by omega) h4
theorem Cl.next {G : Dg} {bs : List Bool} {k j : Nat} (h : Cl G bs k j) (hb : bnth bs k = false ∨ 4 ≤ j) : Cl G bs (k + 1) 0 := by
 intro k' q h1 h2 h3 h4
 refine h k' q h1 h2 ?_ h4
 rcases hb with hb | hb
 ·left
  have : k' ≠ k := fun e => by rw [e, hb] at h4; cases h4
  omega
 ·omega
theorem PcI.set {G : Dg} (hG : GoodG G) {c k j : Nat} {bs : List Bool} (h : PcI G c bs) (hk : k < G.n) (hj : j < 4) (hb : bnth bs k = true) : PcI G c (bs.set (oth G (k, j)).1 true) := by
 have hn := (nb hG hk hj).1
 have hl := h.len
 refine ⟨by simp [hl], ?_, fun i hi => ?_⟩
 ·rw [bnth_set (by omega)]
  split
  ·rfl
  ·exact h.root
 ·rw [bnth_set (by omega)]
  split
  ·rename_i e
   intro _
   rw [e]
   exact (h.conn k hk hb).step j hj
  ·exact h.conn i hi
theorem outN_set {n i : Nat} {bs : List Bool} (hl : bs.length = n) (hi : i < n) (hb : bnth bs i = false) : outN (bs.set i true) n < outN bs n := by
 unfold outN
 refine cntP_less (i0 := i) hb ?_ (fun j hj => ?_) hi
 ·rw [bnth_set (by omega), if_pos rfl]; simp
 ·rw [bnth_set (by omega)]
  split
  ·intro h; cases h
  ·exact id
theorem Cl.iff {G : Dg} (hG : GoodG G) {c : Nat} {bs : List Bool} (h : PcI G c bs) (hc : c < G.n) (k : Cl G bs G.n 0) {i : Nat} (hi : i < G.n) : bnth bs i = true ↔ Conn G c i := by
 refine ⟨h.conn i hi, fun hC => ?_⟩
 have key : ∀ b, Conn G c b → bnth bs b = true := by
  intro b hb
  induction hb with
  | refl => exact h.root
  | @step b q hab hq ih => exact k b q (hab.lt hG hc) hq (.inl (hab.lt hG hc)) ih
 exact key i hC
variable {E : Env} (hE : OE E)
include hE
theorem piece_ {h0 : List O} {a : Option Addr} {n c : Nat} {x : Nat → Nat → Int} {s : Nat → Int} {L : Int} (hx : CrossP h0 a n x s) (hS : Snd n x s L) {e : Nat} (he : e < n) :
  DC E 193 [dV a n c L, .int .i64 e] ⟨h0, h0.length⟩ fun o st' => ∃ v l, o = .ret v ∧ h0.length ≤ st'.fl ∧ Sub h0 st'.h ∧ l = (List.range n).filter (fun i => decide (Conn (dgOf n x s L) e i)) ∧ OwnT st'.h h0.length v l.length (intsC (l.map Int.ofNat)) 3 1 := by
 refine hE.fnC (body := rb193) rfl ?_
 unfold rb193
 have hG := good_of hS
 have hoth := fun {y : Nat × Nat} (hy : InV (dgOf n x s L) y) h k => other_ hE (h0 := h) (a := a) (x := x) (c := c) k hS hy
 simp only [dV, endV] at hoth
 obtain ⟨G, hGe⟩ : ∃ G, G = dgOf n x s L := ⟨_, rfl⟩
 rw [← hGe] at hG ⊢
 simp only [← hGe] at hoth
 have hGn : G.n = n := by rw [hGe]; rfl
 have hsz := hG.size
 rw [hGn] at hsz
 obtain ⟨hB, hhB⟩ : ∃ H, H = h0 ++ [O.cells [.slice a n c, .int .i64 L] 24 (some 0)] := ⟨_, rfl⟩
 have lB : hB.length = h0.length + 1 := by rw [hhB]; simp
 have sB : Sub h0 hB := by rw [hhB]; exact (Sub.refl _).app _
 have bB : hB[h0.length]? = some (O.cells [.slice a n c, .int .i64 L] 24 (some 0)) := by rw [hhB, app_at0]; rfl
 have e1 : (n : Int) ≤ 140737488355328 := by omega
 have e2 : (n : Int) < 4611686018427387904 := by omega
 have hrep : rep n [Value.bool false] = boolsC (List.replicate n false) := by simp [rep, boolsC]
 have he1 : e + 1 ≤ n := by omega
 simp [dV, rd_at0, e1, e2, hrep, he, wrN_at, set_at, boolsC_set, List.append_assoc, he1]
 obtain ⟨m, hm⟩ : ∃ m, m = h0.length + 1 := ⟨_, rfl⟩
 rw [← hm] at lB ⊢
 refine DW_loop (fun kk fr st => ∃ (h : List O) (bs : List Bool) (ch : Bool), st = ⟨h, h0.length⟩ ∧ Sub hB h ∧ AtB h m (.cells (boolsC bs) 4 (some 0)) ∧ PcI G e bs ∧ (ch = true → outN bs n < kk) ∧ (ch = false → Cl G bs n 0) ∧ get fr 2 = .pointer (some ⟨h0.length, 0, none⟩) ∧ get fr 5 = .slice (some ⟨m, 0, none⟩) n n ∧ get fr 6 = .bool ch) ?_ (k := n + 1) ?_
 ·rintro kk fr st ⟨h, bs, ch, rfl, hsub, hatB, hI, hlt, hcl, g2, g5, g6⟩
  cases ch with
  | true =>
   have hlt' := hlt rfl
   simp [g2, g5, g6]
   refine DW_loop (fun kk' fr st => ∃ (k : Nat) (h : List O) (bs' : List Bool) (ch : Bool), k + kk' = n ∧ st = ⟨h, h0.length⟩ ∧ Sub hB h ∧ AtB h m (.cells (boolsC bs') 4 (some 0)) ∧ PcI G e bs' ∧ outN bs' n ≤ outN bs n ∧ (ch = true → outN bs' n < outN bs n) ∧ (ch = false → Cl G bs' k 0) ∧ get fr 2 = .pointer (some ⟨h0.length, 0, none⟩) ∧ get fr 5 = .slice (some ⟨m, 0, none⟩) n n ∧ get fr 6 = .bool ch ∧ get fr 7 = .int .i64 k) ?_ (k := n) ?_
   ·clear g2 g5 g6
    rintro kk' fr st ⟨k, h', bs', ch, hkk, rfl, hsub', hatB', hI', hle', hlt'', hcl', g2, g5, g6, g7⟩
    by_cases hk : k < n
    ·simp [g2, g5, g6, g7, hk]
     refine DW_loop (fun kk'' fr st => ∃ (j : Nat) (h : List O) (bs' : List Bool) (ch : Bool), j + kk'' = 4 ∧ st = ⟨h, h0.length⟩ ∧ Sub hB h ∧ AtB h m (.cells (boolsC bs') 4 (some 0)) ∧ PcI G e bs' ∧ outN bs' n ≤ outN bs n ∧ (ch = true → outN bs' n < outN bs n) ∧ (ch = false → Cl G bs' k j) ∧ get fr 2 = .pointer (some ⟨h0.length, 0, none⟩) ∧ get fr 5 = .slice (some ⟨m, 0, none⟩) n n ∧ get fr 6 = .bool ch ∧ get fr 7 = .int .i64 k ∧ get fr 8 = .int .i64 j) ?_ (k := 4) ?_
     ·clear g2 g5 g6 g7 hcl' hlt'' hle' hI' hatB' hsub'
      clear bs' h' ch
      rintro kk'' fr st ⟨j, h', bs', ch, hjk, rfl, hsub', hatB', hI', hle', hlt'', hcl', g2, g5, g6, g7, g8⟩
      have hat := hatB'
      unfold AtB at hat
      have hlen := hI'.len
      have hwk : IntKind.i64.wrap ((k : Int) + 1) = (k : Int) + 1 := by rw [w64_id] <;> omega
      have hwj : IntKind.i64.wrap ((j : Int) + 1) = (j : Int) + 1 := by rw [w64_id] <;> omega
      have hkb : k < bs'.length := by omega
      by_cases hj : j < 4
      ·have hj' : (j : Int) < 4 := by omega
       by_cases hb : bnth bs' k = true
       ·have hinV : InV G (k, j) := hG.inV (by rw [hGn]; exact hk) hj
        obtain ⟨o, ho⟩ : ∃ o, o = oth G (k, j) := ⟨_, rfl⟩
        have hnb := nb hG (c := k) (q := j) (by omega) hj
        have hot := hoth hinV
        rw [← ho] at hot hnb
        have ho1 : o.1 < n := by have := hnb.1; omega
        have hcs : CrossP h' a n x s := hx.sub (sB.trans hsub')
        have hb2 : h'[h0.length]? = some (O.cells [.slice a n c, .int .i64 L] 24 (some 0)) := hsub' _ _ bB
        obtain ⟨h1, hh1⟩ : ∃ H, H = h' ++ [O.cells [.int .i64 o.1, .int .i64 o.2] 72 (some 0)] := ⟨_, rfl⟩
        have s1 : Sub h' h1 := by rw [hh1]; exact (Sub.refl _).app _
        have b1 : h1[h'.length]? = some (O.cells [.int .i64 o.1, .int .i64 o.2] 72 (some 0)) := by rw [hh1, app_at0]; rfl
        have hat1 := s1 _ _ hat
        have hsl := hsub'.len
        have hmin : min h0.length h'.length = h0.length := by omega
        have hminm : min h0.length m = h0.length := by omega
        have hob : o.1 < bs'.length := by omega
        have hob1 : o.1 + 1 ≤ n := by omega
        by_cases hin : bnth bs' o.1 = true
        ·simp [g2, g5, g6, g7, g8, hj', rd_def, rdN_def, hat, boolsC_get hkb, hb, hk, hb2, DC_when hot, hcs, joined_fl, wrN_at0, set_at0, hmin, ← hh1, hat1, b1, boolsC_get hob, hin, ho1, hwj]
         refine ⟨kk'' - 1, by omega, j + 1, by omega, fun b o hb => s1 _ _ (hsub' _ _ hb), bs', hat1, hI', hle', ?_⟩
         cases ch with
         | true => exact .inr ⟨hlt'' rfl, rfl, by omega⟩
         | false => exact .inl ⟨(hcl' rfl).step (by rw [← ho]; exact hin), rfl, by omega⟩
        ·have hin' : bnth bs' o.1 = false := by simpa using hin
         simp [g2, g5, g6, g7, g8, hj', rd_def, rdN_def, wrN_def, hat, boolsC_get hkb, hb, hk, hb2, DC_when hot, hcs, joined_fl, wrN_at0, set_at0, hmin, ← hh1, hat1, b1, boolsC_get hob, hin', ho1, hwj, boolsC_set, hlen, hob1, hminm, hGn]
         have hlt3 := outN_set (n := n) (by omega) ho1 hin'
         refine ⟨kk'' - 1, by omega, j + 1, by omega, (hsub'.trans s1).set (by omega) _, bs'.set o.1 true, set_self hat1, ?_, by omega, by omega, by omega⟩
         rw [ho]
         exact hI'.set hG (by omega) hj hb
       ·have hb' : bnth bs' k = false := by simpa using hb
        simp [g2, g5, g6, g7, g8, hj', rd_def, hat, boolsC_get hkb, hb', hk, hwk]
        refine ⟨kk' - 1, by omega, k + 1, by omega, hsub', bs', hatB', hI', hle', ?_⟩
        cases ch with
        | true => exact .inr ⟨hlt'' rfl, rfl, by omega⟩
        | false => exact .inl ⟨(hcl' rfl).next (.inl hb'), rfl, by omega⟩
      ·have hj' : ¬ (j : Int) < 4 := by omega
       simp [g2, g5, g6, g7, g8, hj', hwk]
       refine ⟨kk' - 1, by omega, k + 1, by omega, hsub', bs', hatB', hI', hle', ?_⟩
       cases ch with
       | true => exact .inr ⟨hlt'' rfl, rfl, by omega⟩
       | false => exact .inl ⟨(hcl' rfl).next (.inr (by omega)), rfl, by omega⟩
     ·refine ⟨0, h', bs', ch, by omega, rfl, hsub', hatB', hI', hle', hlt'', hcl', ?_⟩
      simp [g2, g5, g6, g7]
    ·have hkn : k = n := by omega
     simp [g2, g5, g6, g7, hk]
     refine ⟨outN bs n, hlt', hsub', bs', hatB', hI', ?_⟩
     cases ch with
     | true => exact .inr ⟨hlt'' rfl, rfl⟩
     | false => exact .inl ⟨by rw [← hkn]; exact hcl' rfl, rfl⟩
   ·refine ⟨0, h, bs, false, by omega, rfl, hsub, hatB, hI, Nat.le_refl _, fun h => (by cases h), fun _ k' q _ _ h => (by omega), ?_⟩
    simp [g2, g5]
  | false =>
   have hclo := hcl rfl
   have hat := hatB
   unfold AtB at hat
   have hlen := hI.len
   have hsl := hsub.len
   have hml := (List.getElem?_eq_some_iff.1 hat).1
   simp [g2, g5, g6]
   refine DW_loop (fun kk' fr st => ∃ (i : Nat) (h' : List O) (v : Value), i + kk' = n ∧ st = ⟨h', h0.length⟩ ∧ Sub h h' ∧ OwnT h' h.length v ((List.range i).filter (fun i => bnth bs i)).length (intsC (((List.range i).filter (fun i => bnth bs i)).map Int.ofNat)) 3 1 ∧ get fr 5 = .slice (some ⟨m, 0, none⟩) n n ∧ get fr 10 = v ∧ get fr 11 = .int .i64 i) ?_ (k := n) ?_
   ·clear g2 g5 g6
    rintro kk' fr st ⟨i, h', v, hik, rfl, hsub', hT, g5, g10, g11⟩
    have hat' := hsub' _ _ hat
    have hw : IntKind.i64.wrap ((i : Int) + 1) = (i : Int) + 1 := by rw [w64_id] <;> omega
    by_cases hi : i < n
    ·have hib : i < bs.length := by omega
     have hfl := List.length_filter_le (fun i => bnth bs i) (List.range i)
     rw [List.length_range] at hfl
     by_cases hb : bnth bs i = true
     ·have hsl' := hsub'.len
      obtain ⟨h3, hh3⟩ : ∃ H, H = h' ++ [O.cells [.int .i64 i] 3 (some 0)] := ⟨_, rfl⟩
      have s3 : Sub h' h3 := by rw [hh3]; exact (Sub.refl _).app _
      have hl3 := s3.len
      have hrd : readSlice h3 1 1 (some ⟨h'.length, 0, none⟩) = some [.int .i64 i] := slice_read (by rw [hh3, app_at0]; rfl) rfl
      obtain ⟨b', h4, f4, happ, hb', hT4, hf4, hf4', hl4, hk4⟩ := append_T (fl := h0.length) (c := 1) (bytes := 8) (hT.keep (h' := h3) fun b s _ _ e => s3 _ _ e) hrd rfl rfl (by omega) (by simp only [roomMax]; omega) (by omega)
      have hf : f4 = h0.length := by omega
      simp [g5, g10, g11, hi, rd_def, hat', boolsC_get hib, hb, ← hh3, happ, hf, hw]
      have hfs : (List.range (i + 1)).filter (fun i => bnth bs i) = (List.range i).filter (fun i => bnth bs i) ++ [i] := by
       rw [List.range_succ, List.filter_append]; simp [hb]
      refine ⟨kk' - 1, by omega, i + 1, by omega, fun b o hb => hk4 b o (s3 _ _ (hsub' _ _ hb)) (.inl (List.getElem?_eq_some_iff.1 hb).1), _, ?_, rfl, by omega⟩
      rw [hfs, List.map_append, List.length_append]
      simp only [intsC, List.map_append] at hT4 ⊢
      exact hT4
     ·have hb' : bnth bs i = false := by simpa using hb
      simp [g5, g10, g11, hi, rd_def, hat', boolsC_get hib, hb', hw]
      have hfs : (List.range (i + 1)).filter (fun i => bnth bs i) = (List.range i).filter (fun i => bnth bs i) := by
       rw [List.range_succ, List.filter_append]; simp [hb']
      exact ⟨kk' - 1, by omega, i + 1, by omega, hsub', v, by rw [hfs]; exact hT, rfl, by omega⟩
    ·have hin : i = n := by omega
     subst hin
     simp [g5, g10, g11, endK_ret]
     have hfe : (List.range i).filter (fun i => bnth bs i) = (List.range i).filter (fun i => decide (Conn G e i)) := by
      refine List.filter_congr fun j hj => ?_
      rw [List.mem_range] at hj
      rw [Bool.eq_iff_iff, decide_eq_true_iff]
      exact Cl.iff hG hI (by omega) (by rw [hGn]; exact hclo) (by omega)
     rw [hfe] at hT
     have hT0 := hT.low (lo' := h0.length) (by omega)
     unfold pairQ back
     split
     ·rename_i hc
      rw [Bool.and_eq_true] at hc
      exact ⟨v, rfl, Nat.le_refl _, Sub.refl _, hT0.scalar hc.1 _⟩
     ·exact ⟨v, rfl, Nat.le_refl _, sB.trans (hsub.trans hsub'), hT0⟩
   ·refine ⟨0, h, emptyS, by omega, rfl, Sub.refl _, .inl ⟨rfl, by simp, by simp [intsC]⟩, ?_⟩
    simp [g5]
 ·refine ⟨_, (List.replicate n false).set e true, true, rfl, ?_, ?_, ⟨?_, ?_, fun i hi => ?_⟩, fun _ => ?_, fun h => (by cases h), ?_⟩
  ·rw [hhB]
   exact Ext.sub ⟨[O.cells (boolsC ((List.replicate n false).set e true)) 4 (some 0)], by simp⟩
  ·unfold AtB
   rw [hm, app_at]
   simp
  ·simp [hGn]
  ·rw [bnth_set (by simp; omega), if_pos rfl]
  ·rw [bnth_set (by simp; omega)]
   split
   ·rename_i e'
    intro _; rw [e']; exact .refl _
   ·rw [bnth_rep (by omega)]
    intro h; cases h
  ·have := cntP_le (fun i => bnth ((List.replicate n false).set e true) i = false) n
   unfold outN; omega
  ·simp
end Go.Proofs.Ytjlkndkedknocaa
namespace Go.Ai
attribute [local instance] Classical.propDecidable
theorem filter_cnt (p : Nat → Prop) : ∀ n, ((List.range n).filter fun i => decide (p i)).length = cntP p n := by
 intro n
 induction n with
 | zero => rfl
 | succ n ih =>
  rw [List.range_succ, List.filter_append, List.length_append, ih]
  simp only [cntP]
  by_cases h : p n
  ·simp [h]
  ·simp [h]
end Go.Ai
namespace Go.Proofs.Ytjlkndkedknocaa
open Go Go.Ai
attribute [local instance] Classical.propDecidable
noncomputable def pieceL (G : Dg) (c : Nat) : List Nat := (List.range G.n).filter fun i => decide (Conn G c i)
theorem pieceL_mem {G : Dg} {c i : Nat} : i ∈ pieceL G c ↔ i < G.n ∧ Conn G c i := by simp [pieceL]
theorem pieceL_len (G : Dg) (c : Nat) : (pieceL G c).length = cntP (fun i => Conn G c i) G.n := filter_cnt _ _
theorem pieceL_nodup (G : Dg) (c : Nat) : (pieceL G c).Nodup := List.nodup_range.filter _
theorem pieceL_conn {G : Dg} (hG : GoodG G) {c d : Nat} (hc : c < G.n) (h : Conn G c d) : pieceL G d = pieceL G c := by
 unfold pieceL
 refine List.filter_congr fun i hi => ?_
 rw [Bool.eq_iff_iff, decide_eq_true_iff, decide_eq_true_iff]
 exact ⟨fun k => h.trans k, fun k => (h.symm hG hc).trans k⟩
def PlanC (G : Dg) (c : Nat) : Prop := cntP (fun t => Conn G c (rhead G t)) (regs G).length = 2 + cntP (fun i => Conn G c i) G.n
theorem planC_conn {G : Dg} (hG : GoodG G) {c d : Nat} (hc : c < G.n) (h : Conn G c d) : PlanC G d ↔ PlanC G c := by
 have e : ∀ i, Conn G d i ↔ Conn G c i := fun i => ⟨fun k => h.trans k, fun k => (h.symm hG hc).trans k⟩
 unfold PlanC
 rw [cntP_congr fun t _ => e (rhead G t), cntP_congr fun i _ => e i]
theorem plan_heads {G : Dg} (hG : GoodG G) : PlanG G ↔ ∀ c, c < G.n → (pieceL G c)[0]? = some c → PlanC G c := by
 constructor
 ·intro h c hc _; exact h c hc
 ·intro h c hc
  have hm : c ∈ pieceL G c := pieceL_mem.2 ⟨hc, .refl _⟩
  obtain ⟨d, l, hl⟩ : ∃ d l, pieceL G c = d :: l := by
   cases hp : pieceL G c with
   | nil => rw [hp] at hm; cases hm
   | cons d l => exact ⟨d, l, rfl⟩
  have hd : d ∈ pieceL G c := by rw [hl]; exact List.mem_cons_self
  obtain ⟨d1, d2⟩ := pieceL_mem.1 hd
  refine (planC_conn hG hc d2).1 (h d d1 ?_)
  rw [pieceL_conn hG hc d2, hl]; rfl
def natsC (l : List Nat) : List Value := l.map fun i => .int .i64 (i : Nat)
theorem natsC_eq (l : List Nat) : intsC (l.map Int.ofNat) = natsC l := by simp [intsC, natsC]
theorem natsC_get {l : List Nat} {i a : Nat} (h : l[i]? = some a) : (natsC l)[i]? = some (.int .i64 a) := by simp [natsC, h]
variable {E : Env} (hE : OE E)
include hE
theorem planar_ {h0 : List O} {a : Option Addr} {n c : Nat} {x : Nat → Nat → Int} {s : Nat → Int} {L : Int} (hx : CrossP h0 a n x s) (hS : Snd n x s L) :
  DR E 135 [dV a n c L] ⟨h0, h0.length⟩ (.ret (.bool (decide (PlanG (dgOf n x s L))))) ⟨h0, h0.length⟩ := by
 refine hE.fn (body := rb135) rfl ?_
 unfold rb135
 have hG := good_of hS
 obtain ⟨hB, hhB⟩ : ∃ H, H = h0 ++ [O.cells [.slice a n c, .int .i64 L] 24 (some 0)] := ⟨_, rfl⟩
 have lB : hB.length = h0.length + 1 := by rw [hhB]; simp
 have sB : Sub h0 hB := by rw [hhB]; exact (Sub.refl _).app _
 have bB : hB[h0.length]? = some (O.cells [.slice a n c, .int .i64 L] 24 (some 0)) := by rw [hhB, app_at0]; rfl
 have hxB : CrossP hB a n x s := hx.sub sB
 have hreg := regionsR_ hE (c := c) hxB hS
 have hpie := fun {e : Nat} (he : e < n) h k => piece_ hE (h0 := h) (a := a) (x := x) (c := c) k hS he
 simp only [dV] at hpie hreg
 obtain ⟨G, hGe⟩ : ∃ G, G = dgOf n x s L := ⟨_, rfl⟩
 rw [← hGe] at hG hreg ⊢
 simp only [← hGe] at hpie
 have hGn : G.n = n := by rw [hGe]; rfl
 have hpl : ∀ e, (List.range n).filter (fun i => decide (Conn G e i)) = pieceL G e := fun e => by unfold pieceL; rw [hGn]
 simp only [hpl] at hpie
 have hsz := hG.size
 rw [hGn] at hsz
 have hbad : ∀ h' f, h0.length ≤ f → ¬ PlanG G → pairQ (back ⟨h0, h0.length⟩ (.ret (.bool false)) ⟨h', f⟩) fun o2 st2 => o2 = .ret (.bool (decide (PlanG G))) ∧ st2 = ⟨h0, h0.length⟩ := fun h' f hf hm => by
  unfold pairQ
  rw [back_scalar (by simp [Out.scalar, scalar, flat1, flat]) hf]
  simp [hm]
 have hgood : ∀ h' f, h0.length ≤ f → PlanG G → pairQ (back ⟨h0, h0.length⟩ (.ret (.bool true)) ⟨h', f⟩) fun o2 st2 => o2 = .ret (.bool (decide (PlanG G))) ∧ st2 = ⟨h0, h0.length⟩ := fun h' f hf hm => by
  unfold pairQ
  rw [back_scalar (by simp [Out.scalar, scalar, flat1, flat]) hf]
  simp [hm]
 simp [dV, rdN_at0]
 rw [← hhB, ← lB]
 refine hreg.imp ?_
 rintro o ⟨h1, f1⟩ ⟨v, rfl, hf1, hs1, hR⟩
 simp only at hf1 hs1 hR
 obtain ⟨ra, rfl, hat⟩ := hR.at_
 obtain ⟨R, hRe⟩ : ∃ R, R = (regs G).length := ⟨_, rfl⟩
 have hRl : R ≤ 4 * n := by rw [hRe, ← hGn]; exact regs_len
 have hb1 := hs1 _ _ bB
 simp [joined_fl, hf1]
 rw [← hRe]
 refine DW_loop (fun kk fr st => ∃ (i : Nat) (h : List O), i + kk = n ∧ st = ⟨h, h0.length⟩ ∧ Sub h1 h ∧ (∀ c, c < i → (pieceL G c)[0]? = some c → PlanC G c) ∧ get fr 1 = .pointer (some ⟨h0.length, 0, none⟩) ∧ get fr 3 = .slice ra R R ∧ get fr 4 = .int .i64 i) ?_ (k := n) ?_
 ·rintro kk fr st ⟨i, h, hik, rfl, hsub, hP, g1, g3, g4⟩
  have hb2 := hsub _ _ hb1
  by_cases hi : i < n
  ·have hw : IntKind.i64.wrap ((i : Int) + 1) = (i : Int) + 1 := by rw [w64_id] <;> omega
   have hpc := hpie hi h (hx.sub (sB.trans (hs1.trans hsub)))
   simp [g1, g3, g4, hi, rd_def, rdN_def, hb2]
   refine hpc.imp ?_
   rintro o ⟨h2, f2⟩ ⟨v, l, rfl, hf2, hs2, rfl, hT⟩
   simp only at hf2 hs2 hT
   rw [natsC_eq] at hT
   obtain ⟨pa, rfl, hpa⟩ := hT.look
   have him : i ∈ pieceL G i := pieceL_mem.2 ⟨by omega, .refl _⟩
   obtain ⟨N, hN⟩ : ∃ N, N = (pieceL G i).length := ⟨_, rfl⟩
   have hN0 : 0 < N := by rw [hN]; exact List.length_pos_of_mem him
   have hNn : N ≤ n := by rw [hN, pieceL_len, ← hGn]; exact cntP_le _ _
   rw [← hN] at hpa
   obtain ⟨pb, ps, rfl, hpb, hpc⟩ := hpa hN0
   obtain ⟨d, hd⟩ : ∃ d, (pieceL G i)[0]? = some d := ⟨_, List.getElem?_eq_getElem (by omega)⟩
   have hd' := natsC_get hd
   have hl2 := hs2.len
   by_cases hdi : d = i
   ·rw [hdi] at hd hd'
    obtain ⟨l, hl⟩ : ∃ l, l = pieceL G i := ⟨_, rfl⟩
    have hnd : l.Nodup := by rw [hl]; exact pieceL_nodup G i
    have hmem : ∀ t, t < R → (rhead G t ∈ l ↔ Conn G i (rhead G t)) := fun t ht => by
     rw [hl, pieceL_mem]
     exact ⟨fun h => h.2, fun h => ⟨rhead_lt hG (by omega), h⟩⟩
    rw [← hl] at hN hpc hd hd'
    simp [joined_fl, hf2, g1, g3, g4, rd_def, hpc, hd', hN0, ← hl, ← hN]
    refine DW_loop (fun kk' fr st => ∃ (t : Nat), t + kk' = R ∧ st = ⟨h2, h0.length⟩ ∧ get fr 1 = .pointer (some ⟨h0.length, 0, none⟩) ∧ get fr 3 = .slice ra R R ∧ get fr 4 = .int .i64 i ∧ get fr 5 = .slice (some ⟨pb, 0, none⟩) N N ∧ get fr 6 = .int .i64 (cntP (fun t => Conn G i (rhead G t)) t) ∧ get fr 7 = .int .i64 t) ?_ (k := R) ?_
    ·clear g1 g3 g4
     rintro kk' fr st ⟨t, htk, rfl, g1, g3, g4, g5, g6, g7⟩
     have hcl := cntP_le (fun t => Conn G i (rhead G t)) t
     obtain ⟨F, hF⟩ : ∃ F, F = cntP (fun t => Conn G i (rhead G t)) t := ⟨_, rfl⟩
     rw [← hF] at g6 hcl
     by_cases ht : t < R
     ·have hwt : IntKind.i64.wrap ((t : Int) + 1) = (t : Int) + 1 := by rw [w64_id] <;> omega
      obtain ⟨e, r, he, hre, her, hrh⟩ := regs_at hG (t := t) (by omega)
      obtain ⟨b, b', s1, s2, vs, hra, q1, q2, q3, q4, q5⟩ := hat t (e :: r) hre (by simp)
      have q3' := hs2 _ _ (hsub _ _ q3)
      have q5' := hs2 _ _ (hsub _ _ q5)
      have q5c : cellsL (e :: r) = .int .i64 e.1 :: .int .i64 e.2 :: cellsL r := rfl
      rw [q5c] at q5'
      simp [g1, g3, g4, g5, g6, g7, ht]
      refine DW_loop (fun kk'' fr st => ∃ (j : Nat), j + kk'' = N ∧ st = ⟨h2, h0.length⟩ ∧ get fr 1 = .pointer (some ⟨h0.length, 0, none⟩) ∧ get fr 3 = .slice ra R R ∧ get fr 4 = .int .i64 i ∧ get fr 5 = .slice (some ⟨pb, 0, none⟩) N N ∧ get fr 6 = .int .i64 (F + (if rhead G t ∈ l.take j then 1 else 0 : Nat)) ∧ get fr 7 = .int .i64 t ∧ get fr 8 = .int .i64 j) ?_ (k := N) ?_
      ·clear g1 g3 g4 g5 g6 g7
       rintro kk'' fr st ⟨j, hjk, rfl, g1, g3, g4, g5, g6, g7, g8⟩
       by_cases hj : j < N
       ·have hwj : IntKind.i64.wrap ((j : Int) + 1) = (j : Int) + 1 := by rw [w64_id] <;> omega
        obtain ⟨p, hp⟩ : ∃ p, l[j]? = some p := ⟨_, List.getElem?_eq_getElem (by omega)⟩
        have hp' := natsC_get hp
        have htk2 : l.take (j + 1) = l.take j ++ [p] := by rw [List.take_add_one, hp]; rfl
        have hnt : p ∉ l.take j := fun hm => by
         have h1 : (l.take (j + 1)).Nodup := hnd.sublist (List.take_sublist _ _)
         rw [htk2, List.nodup_append] at h1
         exact h1.2.2 p hm p (by simp) rfl
        by_cases hpe : e.1 = p
        ·have hif0 : rhead G t ∉ l.take j := by rw [hrh, hpe]; exact hnt
         have hif1 : rhead G t ∈ l.take (j + 1) := by rw [hrh, hpe, htk2]; simp
         have hwF : IntKind.i64.wrap ((F : Int) + 1) = (F : Int) + 1 := by rw [w64_id] <;> omega
         rw [if_neg hif0] at g6
         simp [g1, g3, g4, g5, g6, g7, g8, hj, hra, rd_def, q3', q4, q5', hpc, hp', hpe, hwj, ht, hwF]
         exact ⟨kk'' - 1, by omega, j + 1, by omega, by rw [if_pos hif1]; rfl, by omega⟩
        ·have hpe' : ¬ (e.1 : Int) = p := by omega
         have hif : (rhead G t ∈ l.take (j + 1)) ↔ rhead G t ∈ l.take j := by rw [htk2, hrh]; simp [hpe]
         simp [g1, g3, g4, g5, g6, g7, g8, hj, hra, rd_def, q3', q4, q5', hpc, hp', hpe, hwj, ht]
         exact ⟨kk'' - 1, by omega, j + 1, by omega, by simp only [hif], by omega⟩
       ·have hjN : j = N := by omega
        subst hjN
        rw [show l.take j = l from List.take_of_length_le (by omega)] at g6
        simp [g1, g3, g4, g5, g6, g7, g8, hwt]
        refine ⟨kk' - 1, by omega, t + 1, by omega, ?_, by omega⟩
        simp only [cntP]
        rw [← hF]
        by_cases hc : rhead G t ∈ l
        ·rw [if_pos hc, if_pos ((hmem t ht).1 hc)]; omega
        ·rw [if_neg hc, if_neg (fun h => hc ((hmem t ht).2 h))]; omega
      ·refine ⟨0, by omega, rfl, ?_⟩
       simp [g1, g3, g4, g5, g6, g7]
     ·have htR : t = R := by omega
      have hwN : IntKind.i64.wrap ((N : Int) + 2) = (N : Int) + 2 := by rw [w64_id] <;> omega
      have hPC : PlanC G i ↔ F = 2 + N := by
       unfold PlanC
       rw [← hRe, ← htR, ← hF, ← pieceL_len, ← hl, ← hN]
      by_cases hFN : F = N + 2
      ·have hFN' : (F : Int) = N + 2 := by omega
       simp [g1, g3, g4, g5, g6, g7, ht, hwN, hFN, hw]
       refine ⟨kk - 1, by omega, i + 1, by omega, hsub.trans hs2, fun c hc hc2 => ?_, by omega⟩
       by_cases e : c = i
       ·subst e; exact hPC.2 (by omega)
       ·exact hP c (by omega) hc2
      ·have hFN' : ¬ (F : Int) = N + 2 := by omega
       simp [g1, g3, g4, g5, g6, g7, ht, hwN, hFN', hw]
       intro hPG
       have h3 := hPC.1 (hPG i (by omega))
       omega
    ·refine ⟨0, by omega, rfl, ?_⟩
     simp [g1, g3, g4, cntP]
   ·have hdi' : ¬ (d : Int) = i := by omega
    simp [joined_fl, hf2, g1, g3, g4, rd_def, hpc, hd', hN0, ← hN, hdi', hw]
    refine ⟨kk - 1, by omega, i + 1, by omega, hsub.trans hs2, fun c hc hc2 => ?_, by omega⟩
    by_cases e : c = i
    ·subst e; rw [hd] at hc2; exact absurd (Option.some.inj hc2) hdi
    ·exact hP c (by omega) hc2
  ·have hin : i = n := by omega
   subst hin
   simp [g1, g3, g4, rd_def, hb2, endK_ret]
   exact (plan_heads hG).2 (by rw [hGn]; exact hP)
 ·exact ⟨0, h1, by omega, rfl, Sub.refl _, fun c hc => by omega, by simp⟩
end Go.Proofs.Ytjlkndkedknocaa
namespace Go.Ai
attribute [local instance] Classical.propDecidable
theorem cntP_one {p : Nat → Prop} {n i : Nat} (hi : i < n) (hp : p i) (hu : ∀ j, j < n → p j → j = i) : cntP p n = 1 := by
 induction n with
 | zero => omega
 | succ n ih =>
  simp only [cntP]
  by_cases e : i = n
  ·subst e
   rw [if_pos hp, cntP_zero fun j hj hpj => by have := hu j (by omega) hpj; omega]
  ·have hn : ¬ p n := fun h => e (hu n (by omega) h).symm
   rw [if_neg hn, ih (by omega) fun j hj => hu j (by omega)]
theorem cntP_two {p : Nat → Prop} {n i j : Nat} (hij : i < j) (hj : j < n) (hi : p i) (hp : p j) : 2 ≤ cntP p n := by
 have h1 := cntP_pos hij hi
 have h2 := cntP_mono p (show j + 1 ≤ n by omega)
 simp only [cntP, if_pos hp] at h2
 omega
end Go.Ai
namespace Go.Proofs.Ytjlkndkedknocaa
open Go Go.Ai
attribute [local instance] Classical.propDecidable
noncomputable def useN (x : Nat → Nat → Int) (s : Nat → Int) (a : Nat) (b : Bool) (J : Nat) : Nat := cntP (fun k => use x s k = ((a : Int), b)) J
theorem snd_counts {n : Nat} {x : Nat → Nat → Int} {s : Nat → Int} {L : Int} (h1 : n ≤ 200) (h2 : 0 ≤ L ∧ L ≤ 200) (h3 : ∀ c, c < n → s c = 1 ∨ s c = -1) (h4 : ∀ j, j < 4 * n → 0 ≤ (use x s j).1 ∧ (use x s j).1 < 2 * n) :
  Snd n x s L ↔ ∀ a, a < 2 * n → useN x s a true (4 * n) = 1 ∧ useN x s a false (4 * n) = 1 := by
 constructor
 ·intro hS a ha
  have key : ∀ b, useN x s a b (4 * n) = 1 := fun b => by
   obtain ⟨j, hj, he⟩ := hS.onto ha b
   exact cntP_one hj he fun j' hj' he' => hS.inj hj' hj (he'.trans he.symm)
  exact ⟨key true, key false⟩
 ·intro hc
  refine ⟨h1, h2, h3, h4, fun j j' hjj hj' he => ?_⟩
  have hr := h4 j (by omega)
  have h5 := hc (use x s j).1.toNat (by omega)
  have key : 2 ≤ useN x s (use x s j).1.toNat (use x s j).2 (4 * n) := by
   refine cntP_two hjj hj' ?_ ?_
   ·exact Prod.ext (by show (use x s j).1 = _; omega) rfl
   ·rw [← he]; exact Prod.ext (by show (use x s j).1 = _; omega) rfl
  cases hb : (use x s j).2 with
  | true => rw [hb] at key; omega
  | false => rw [hb] at key; omega
theorem useN_le (x : Nat → Nat → Int) (s : Nat → Int) (a : Nat) (b : Bool) (J : Nat) : useN x s a b J ≤ J := cntP_le _ _
structure SI (n : Nat) (x : Nat → Nat → Int) (s : Nat → Int) (J : Nat) (bs es : List Int) : Prop where
 lb : bs.length = 2 * n
 le : es.length = 2 * n
 cb : ∀ a, a < 2 * n → nth bs a = useN x s a true J
 ce : ∀ a, a < 2 * n → nth es a = useN x s a false J
 rg : ∀ j, j < J → 0 ≤ (use x s j).1 ∧ (use x s j).1 < 2 * n
theorem SI.stepB {n J a : Nat} {x : Nat → Nat → Int} {s : Nat → Int} {bs es : List Int} (h : SI n x s J bs es) (ha : a < 2 * n) (hu : use x s J = ((a : Int), true)) : SI n x s (J + 1) (bs.set a (nth bs a + 1)) es := by
 refine ⟨by simp [h.lb], h.le, fun b hb => ?_, fun b hb => ?_, fun j hj => ?_⟩
 ·rw [nth_set (by rw [h.lb]; exact ha)]
  unfold useN
  simp only [cntP, hu]
  by_cases e : b = a
  ·subst e; rw [if_pos rfl, if_pos rfl, h.cb b hb]; rfl
  ·rw [if_neg e, if_neg (fun e' => e (by have := congrArg Prod.fst e'; simp at this; omega)), h.cb b hb]; rfl
 ·unfold useN
  simp only [cntP, hu]
  rw [if_neg (by simp), h.ce b hb]; rfl
 ·by_cases e : j = J
  ·subst e; rw [hu]; exact ⟨by simp only; omega, by simp only; omega⟩
  ·exact h.rg j (by omega)
theorem SI.stepE {n J a : Nat} {x : Nat → Nat → Int} {s : Nat → Int} {bs es : List Int} (h : SI n x s J bs es) (ha : a < 2 * n) (hu : use x s J = ((a : Int), false)) : SI n x s (J + 1) bs (es.set a (nth es a + 1)) := by
 refine ⟨h.lb, by simp [h.le], fun b hb => ?_, fun b hb => ?_, fun j hj => ?_⟩
 ·unfold useN
  simp only [cntP, hu]
  rw [if_neg (by simp), h.cb b hb]; rfl
 ·rw [nth_set (by rw [h.le]; exact ha)]
  unfold useN
  simp only [cntP, hu]
  by_cases e : b = a
  ·subst e; rw [if_pos rfl, if_pos rfl, h.ce b hb]; rfl
  ·rw [if_neg e, if_neg (fun e' => e (by have := congrArg Prod.fst e'; simp at this; omega)), h.ce b hb]; rfl
 ·by_cases e : j = J
  ·subst e; rw [hu]; exact ⟨by simp only; omega, by simp only; omega⟩
  ·exact h.rg j (by omega)
variable {E : Env} (hE : OE E)
include hE
theorem sound_ {h0 : List O} {a : Option Addr} {n c : Nat} {x : Nat → Nat → Int} {s : Nat → Int} {L : Int} (hx : CrossP h0 a n x s) :
  DR E 134 [dV a n c L] ⟨h0, h0.length⟩ (.ret (.bool (decide (Snd n x s L)))) ⟨h0, h0.length⟩ := by
 refine hE.fn (body := rb134) rfl ?_
 unfold rb134
 obtain ⟨hB, hhB⟩ : ∃ H, H = h0 ++ [O.cells [.slice a n c, .int .i64 L] 24 (some 0)] := ⟨_, rfl⟩
 have lB : hB.length = h0.length + 1 := by rw [hhB]; simp
 have sB : Sub h0 hB := by rw [hhB]; exact (Sub.refl _).app _
 have bB : hB[h0.length]? = some (O.cells [.slice a n c, .int .i64 L] 24 (some 0)) := by rw [hhB, app_at0]; rfl
 have hbad : ∀ h' f, h0.length ≤ f → ¬ Snd n x s L → pairQ (back ⟨h0, h0.length⟩ (.ret (.bool false)) ⟨h', f⟩) fun o2 st2 => o2 = .ret (.bool (decide (Snd n x s L))) ∧ st2 = ⟨h0, h0.length⟩ := fun h' f hf hm => by
  unfold pairQ
  rw [back_scalar (by simp [Out.scalar, scalar, flat1, flat]) hf]
  simp [hm]
 by_cases hn : 200 < n
 ·have hn' : (200 : Int) < n := by omega
  simp [dV, rd_at0, hn, hn']
  intro hS; have := hS.size; omega
 have hn' : ¬ (200 : Int) < n := by omega
 by_cases hL0 : L < 0
 ·simp [dV, rd_at0, hn, hn', hL0]
  intro hS; have := hS.loops; omega
 by_cases hL1 : 200 < L
 ·simp [dV, rd_at0, hn, hn', hL0, hL1]
  intro hS; have := hS.loops; omega
 have e0 : (0 : Int) ≤ 2 * n := by omega
 have e1 : 2 * (n : Int) * 8 ≤ 140737488355328 := by omega
 have e2 : 2 * (n : Int) < 4611686018427387904 := by omega
 have e3 : (2 * (n : Int)).toNat = 2 * n := by omega
 have hw0 : IntKind.i64.wrap (2 * (n : Int)) = 2 * n := by rw [w64_id] <;> omega
 simp [dV, rd_at0, hn, hn', hL0, hL1, e0, e1, e2, e3, hw0, List.append_assoc]
 obtain ⟨m, hm⟩ : ∃ m, m = h0.length + 1 := ⟨_, rfl⟩
 rw [← hm] at lB ⊢
 have hmin : min h0.length m = h0.length := by omega
 have hmin2 : min h0.length (m + 1) = h0.length := by omega
 refine DW_loop (fun kk fr st => ∃ (i : Nat) (h : List O) (bs es : List Int), i + kk = n ∧ st = ⟨h, h0.length⟩ ∧ Sub hB h ∧ AtB h m (.cells (intsC bs) 3 (some 0)) ∧ AtB h (m + 1) (.cells (intsC es) 3 (some 0)) ∧ SI n x s (4 * i) bs es ∧ (∀ c, c < i → s c = 1 ∨ s c = -1) ∧ get fr 1 = .pointer (some ⟨h0.length, 0, none⟩) ∧ get fr 3 = .int .i64 n ∧ get fr 4 = .slice (some ⟨m, 0, none⟩) (2 * n) (2 * n) ∧ get fr 5 = .slice (some ⟨m + 1, 0, none⟩) (2 * n) (2 * n) ∧ get fr 6 = .int .i64 i) ?_ (k := n) ?_
 ·rintro kk fr st ⟨i, h, bs, es, hik, rfl, hsub, hbB, heB, hI, hsg, g1, g3, g4, g5, g6⟩
  have hb2 := hsub _ _ bB
  by_cases hi : i < n
  ·obtain ⟨xb, xo, hxa, hxr⟩ := hx
   obtain rfl := hxa (by omega)
   obtain ⟨rq, rs⟩ := CrossP.reads hxr hi
   have hq4 := (sB.trans hsub).rd rs
   simp only [rd_def] at hq4
   by_cases hs1 : s i = 1 ∨ s i = -1
   ·have hcr := hxr i hi
    have huse : ∀ q, q < 4 → use x s (4 * i + q) = (x i q, outB (s i) q) := fun q hq => by
     unfold use
     rw [show (4 * i + q) / 4 = i by omega, show (4 * i + q) % 4 = q by omega]
    have hin := fun {q : Nat} (hq : q < 4) h => In_ hE (h := h) (x := x i) (s := s i) hs1 hq
    simp only [crossV] at hin
    have hs1c := hs1
    rcases hs1c with hp | hp
    all_goals
     simp [g1, g3, g4, g5, g6, hi, rd_def, hb2, hq4, hp]
     refine DW_loop (fun kk' fr st => ∃ (q : Nat) (h : List O) (bs es : List Int), q + kk' = 4 ∧ st = ⟨h, h0.length⟩ ∧ Sub hB h ∧ AtB h m (.cells (intsC bs) 3 (some 0)) ∧ AtB h (m + 1) (.cells (intsC es) 3 (some 0)) ∧ SI n x s (4 * i + q) bs es ∧ get fr 1 = .pointer (some ⟨h0.length, 0, none⟩) ∧ get fr 3 = .int .i64 n ∧ get fr 4 = .slice (some ⟨m, 0, none⟩) (2 * n) (2 * n) ∧ get fr 5 = .slice (some ⟨m + 1, 0, none⟩) (2 * n) (2 * n) ∧ get fr 6 = .int .i64 i ∧ get fr 7 = .int .i64 q) ?_ (k := 4) ?_
     ·clear g1 g3 g4 g5 g6 hI hbB heB hb2 hq4 hsub
      clear bs es h
      rintro kk' fr st ⟨q, h, bs, es, hqk, rfl, hsub, hbB, heB, hI, g1, g3, g4, g5, g6, g7⟩
      have hb2 := hsub _ _ bB
      have hbB' := hbB
      have heB' := heB
      unfold AtB at hbB' heB'
      by_cases hq : q < 4
      ·have hq' : (q : Int) < 4 := by omega
       have hwq : IntKind.i64.wrap ((q : Int) + 1) = (q : Int) + 1 := by rw [w64_id] <;> omega
       have hr := (sB.trans hsub).rd (rq q hq)
       have hc5 := (sB.trans hsub).rdN hcr
       simp only [rd_def] at hr
       rw [rdN_def] at hc5
       simp only [crossC] at hc5
       by_cases h1 : x i q < 0
       ·simp [g1, g3, g4, g5, g6, g7, hq', rd_def, hb2, hi, hr, h1, endK_ret]
        intro hS
        have := hS.range (4 * i + q) (by omega)
        rw [huse q hq] at this
        simp only at this
        omega
       by_cases h2 : 2 * (n : Int) ≤ x i q
       ·simp [g1, g3, g4, g5, g6, g7, hq', rd_def, hb2, hi, hr, h1, h2, hw0, endK_ret]
        intro hS
        have := hS.range (4 * i + q) (by omega)
        rw [huse q hq] at this
        simp only at this
        omega
       obtain ⟨e, he⟩ : ∃ e : Nat, x i q = e := ⟨(x i q).toNat, by omega⟩
       have hen : e < 2 * n := by omega
       have hen' : (e : Int) < 2 * n := by omega
       have hen2 : e + 1 ≤ 2 * n := by omega
       have h2' : ¬ 2 * (n : Int) ≤ e := by omega
       have h1' : ¬ (e : Int) < 0 := by omega
       have hu := huse q hq
       rw [he] at hu hr
       have hlb := hI.lb
       have hle := hI.le
       have heb : e < bs.length := by omega
       have hee : e < es.length := by omega
       have hcb := hI.cb e hen
       have hce := hI.ce e hen
       have hub := useN_le x s e true (4 * i + q)
       have hue := useN_le x s e false (4 * i + q)
       have hwb : IntKind.i64.wrap (nth bs e + 1) = nth bs e + 1 := by rw [w64_id] <;> omega
       have hwe : IntKind.i64.wrap (nth es e + 1) = nth es e + 1 := by rw [w64_id] <;> omega
       cases hob : outB (s i) q with
       | true =>
        rw [hob] at hu
        have hin' := fun h => hin hq h
        rw [hob] at hin'
        rw [hp] at hin' hc5
        simp [g1, g3, g4, g5, g6, g7, hq', rd_def, rdN_def, wrN_def, hb2, hi, hr, h1', h2', hw0, hc5, DC_q hin', hbB', heB', hen', intsC_get heb, intsC_get hee, hwb, hwe, hlb, hle, intsC_set, hen2, hwq, hmin, hmin2]
        refine ⟨kk' - 1, by omega, q + 1, by omega, hsub.set (by omega) _, _, set_self hbB', es, set_ne heB' (by omega), hI.stepB hen hu, by omega⟩
       | false =>
        rw [hob] at hu
        have hin' := fun h => hin hq h
        rw [hob] at hin'
        rw [hp] at hin' hc5
        simp [g1, g3, g4, g5, g6, g7, hq', rd_def, rdN_def, wrN_def, hb2, hi, hr, h1', h2', hw0, hc5, DC_q hin', hbB', heB', hen', intsC_get heb, intsC_get hee, hwb, hwe, hlb, hle, intsC_set, hen2, hwq, hmin, hmin2]
        refine ⟨kk' - 1, by omega, q + 1, by omega, hsub.set (by omega) _, bs, set_ne hbB' (by omega), _, set_self heB', hI.stepE hen hu, by omega⟩
      ·have hq4 : q = 4 := by omega
       subst hq4
       have hw : IntKind.i64.wrap ((i : Int) + 1) = (i : Int) + 1 := by rw [w64_id] <;> omega
       simp [g1, g3, g4, g5, g6, g7, hw]
       refine ⟨kk - 1, by omega, i + 1, by omega, hsub, bs, hbB, es, heB, by rw [Nat.mul_add]; exact hI, fun c hc => ?_, by omega⟩
       by_cases e : c = i
       ·rw [e]; exact hs1
       ·exact hsg c (by omega)
     ·refine ⟨0, h, bs, es, by omega, rfl, hsub, hbB, heB, hI, ?_⟩
      simp [g1, g3, g4, g5, g6]
   ·have hs1' : ¬ s i = 1 := fun h => hs1 (.inl h)
    have hs2' : ¬ s i = -1 := fun h => hs1 (.inr h)
    simp [g1, g3, g4, g5, g6, hi, rd_def, hb2, hq4, hs1', hs2', endK_ret]
    exact fun hS => hs1 (hS.sign i hi)
  ·have hin : i = n := by omega
   subst hin
   simp [g1, g3, g4, g5, g6, rd_def, hb2]
   have hbB' := hbB
   have heB' := heB
   unfold AtB at hbB' heB'
   have hcnt := snd_counts (L := L) (by omega) (by omega) hsg hI.rg
   have hlb := hI.lb
   have hle := hI.le
   refine DW_loop (fun kk fr st => ∃ (e : Nat), e + kk = 2 * i ∧ st = ⟨h, h0.length⟩ ∧ (∀ a, a < e → useN x s a true (4 * i) = 1 ∧ useN x s a false (4 * i) = 1) ∧ get fr 3 = .int .i64 i ∧ get fr 4 = .slice (some ⟨m, 0, none⟩) (2 * i) (2 * i) ∧ get fr 5 = .slice (some ⟨m + 1, 0, none⟩) (2 * i) (2 * i) ∧ get fr 9 = .int .i64 e) ?_ (k := 2 * i) ?_
   ·clear g1 g3 g4 g5 g6
    rintro kk fr st ⟨e, hek, rfl, hP, g3, g4, g5, g9⟩
    by_cases he : e < 2 * i
    ·have he' : (e : Int) < 2 * i := by omega
     have heb : e < bs.length := by omega
     have hee : e < es.length := by omega
     have hw : IntKind.i64.wrap ((e : Int) + 1) = (e : Int) + 1 := by rw [w64_id] <;> omega
     have hcb := hI.cb e he
     have hce := hI.ce e he
     by_cases h1 : nth bs e = 1
     ·by_cases h2 : nth es e = 1
      ·simp [g3, g4, g5, g9, he', hw0, rd_def, hbB', heB', intsC_get heb, intsC_get hee, h1, h2, hw]
       refine ⟨kk - 1, by omega, e + 1, by omega, fun a ha => ?_, by omega⟩
       by_cases e' : a = e
       ·rw [e']; omega
       ·exact hP a (by omega)
      ·simp [g3, g4, g5, g9, he', hw0, rd_def, hbB', heB', intsC_get heb, intsC_get hee, h1, h2, hw, endK_ret]
       intro hS
       have := (hcnt.1 hS e he).2
       omega
     ·simp [g3, g4, g5, g9, he', hw0, rd_def, hbB', heB', intsC_get heb, intsC_get hee, h1, hw, endK_ret]
      intro hS
      have := (hcnt.1 hS e he).1
      omega
    ·have he' : ¬ (e : Int) < 2 * i := by omega
     simp [g3, g4, g5, g9, he', hw0, endK_ret]
     exact hcnt.2 fun a ha => hP a (by omega)
   ·exact ⟨0, by omega, rfl, fun a ha => by omega, by simp [g3, g4, g5]⟩
 ·refine ⟨0, h0 ++ [O.cells [.slice a n c, .int .i64 L] 24 (some 0), O.cells (rep (2 * n) [.int .i64 0]) 3 (some 0), O.cells (rep (2 * n) [.int .i64 0]) 3 (some 0)], List.replicate (2 * n) 0, List.replicate (2 * n) 0, by omega, rfl, ?_, ?_, ?_, ⟨by simp, by simp, ?_, ?_, fun j hj => by omega⟩, fun c hc => by omega, ?_⟩
  ·rw [hhB]; exact Ext.sub ⟨[O.cells (rep (2 * n) [.int .i64 0]) 3 (some 0), O.cells (rep (2 * n) [.int .i64 0]) 3 (some 0)], by simp⟩
  ·unfold AtB
   rw [hm, app_at]; simp [rep, intsC]
  ·unfold AtB
   rw [hm, Nat.add_assoc, app_at]; simp [rep, intsC]
  ·intro a ha; simp [nth, useN, cntP, ha]
  ·intro a ha; simp [nth, useN, cntP, ha]
  ·simp [hm]
end Go.Proofs.Ytjlkndkedknocaa
namespace Go.Proofs.Ytjlkndkedknocaa
open Go Go.Ai
attribute [local instance] Classical.propDecidable
variable {E : Env} (hE : OE E)
include hE
theorem checkR_ {h0 : List O} {a : Option Addr} {n c : Nat} {x : Nat → Nat → Int} {s : Nat → Int} {L : Int} (hx : CrossP h0 a n x s) :
  DR E 58 [dV a n c L] ⟨h0, h0.length⟩ (.ret (.int .i64 (kindD n x s L))) ⟨h0, h0.length⟩ := by
 refine hE.fn (body := rb58) rfl ?_
 unfold rb58
 have hc : ∀ l, CrossP (h0 ++ l) a n x s := fun l => hx.ext (Ext.snoc h0 l)
 have h1 := fun h k => sound_ hE (h0 := h) (a := a) (x := x) (c := c) (L := L) (n := n) (s := s) k
 by_cases hS : Snd n x s L
 ·have h2 := fun h k => planar_ hE (h0 := h) (a := a) (x := x) (c := c) k hS
  by_cases hP : PlanG (dgOf n x s L)
  ·simp only [dV, decide_eq_true hS, decide_eq_true hP] at h1 h2
   simp [dV, rdN_at0, DC_when h1, DC_when h2, hc, joined_fl, kindD, hS, hP]
  ·simp only [dV, decide_eq_true hS, decide_eq_false hP] at h1 h2
   simp [dV, rdN_at0, DC_when h1, DC_when h2, hc, joined_fl, kindD, hS, hP]
 ·simp only [dV, decide_eq_false hS] at h1
  simp [dV, rdN_at0, DC_when h1, hc, joined_fl, kindD, hS]
end Go.Proofs.Ytjlkndkedknocaa
namespace Go.Proofs.Ytjlkndkedknocaa
open Go Go.Ai
attribute [local instance] Classical.propDecidable
variable {E : Env} (hE : OE E)
include hE
end Go.Proofs.Ytjlkndkedknocaa
namespace Go.Ai
theorem Sub.rdO {h h' : List O} (hs : Sub h h') {b i : Nat} {v : Value} (hr : rdO h[b]? i = some v) : rdO h'[b]? i = some v := by
 rw [← rd_def] at hr ⊢
 exact hs.rd hr
end Go.Ai
namespace Go.Proofs.Ytjlkndkedknocaa
open Go Go.Ai
attribute [local instance] Classical.propDecidable
def InvI (h : List O) (lo n : Nat) (A : List (List Int)) (i : Nat) (vs : List Value) : Prop :=
 ∀ q, q < i → ∃ b, vs[q]? = some (.slice (some ⟨b, 0, none⟩) n n) ∧ lo ≤ b ∧ h[b]? = some (.cells (intsC (invL (nthR A q))) 3 (some 0))
theorem InvI.mat {h : List O} {lo n i : Nat} {A : List (List Int)} {vs : List Value} {uv : Value} (hR : InvI h lo n A i vs) (hu : OwnS h lo uv i vs 34 1) (hi : A.length = i) (hrow : ∀ q, q < i → (nthR A q).length = n ∧ PermL n (nthR A q)) (hn : n ≤ 1000 ∧ i ≤ 1000) : Mat h uv (invA A) := by
 have hlA : (invA A).length = i := by rw [invA_length, hi]
 rcases hu.2 with ⟨h1, h2⟩ | ⟨b, su, h1, h2, h3, _⟩
 ·have : invA A = [] := List.length_eq_zero_iff.1 (by omega)
  rw [h1, this]
  exact ⟨none, 0, 0, 0, fun _ => undef, rfl, fun h => absurd h (by simp), fun i hi => absurd hi (by simp), by simp⟩
 ·refine ⟨some ⟨b, 0, none⟩, b, 0, i, fun q => (vs[q]?).getD undef, by rw [h1, hlA], fun _ => rfl, fun q hq => ?_, by omega⟩
  obtain ⟨b', r1, r2, r3⟩ := hR q (by omega)
  refine ⟨by rw [rd_def, h3]; simp [r1], ?_⟩
  rw [invA_at (by omega)]
  simp only [r1, Option.getD_some]
  obtain ⟨k1, k2⟩ := hrow q (by omega)
  have hinv := k2.inv
  refine ⟨some ⟨b', 0, none⟩, b', 0, n, by rw [hinv.len], fun _ => rfl, fun j hj => ?_, fun j => ?_, by rw [hinv.len]; omega⟩
  ·rw [rd_def, r3]
   simp only [rdO_cells, Nat.zero_add]
   exact intsC_get hj
  ·by_cases hj : j < (invL (nthR A q)).length
   ·have := hinv.rng j hj
    constructor <;> omega
   ·rw [nth_ge (by omega)]; constructor <;> omega
variable {E : Env} (hE : OE E)
include hE
theorem checkW_ {h0 : List O} {a : Option Addr} {n c : Nat} {x : Nat → Nat → Int} {s : Nat → Int} {L : Int} {vA : Value} {A : List (List Int)} (hx : CrossP h0 a n x s) (hA : Mat h0 vA A) (hroom : ∀ i, i < A.length → (nthR A i).length * 8 ≤ roomMax) :
  DR E 67 [dV a n c L, vA] ⟨h0, h0.length⟩ (.ret (.int .i64 (if kindD n x s L ≠ 0 then kindD n x s L else checkD (dgOf n x s L) A))) ⟨h0, h0.length⟩ := by
 refine hE.fn (body := rb67) rfl ?_
 unfold rb67
 have hx1 : CrossP (h0 ++ [O.cells [.slice a n c, .int .i64 L] 24 (some 0)]) a n x s := hx.ext (Ext.snoc _ _)
 have h1 := check_ hE (c := c) (L := L) hx1
 simp [dV] at h1
 by_cases hk : kindD n x s L = 0
 ·have h2 := newLinkC_ hE (c := c) hx1 hk
  simp [dV] at h2
  have hS := (kind_zero hk).1
  simp [dV, rdN_at0, joined_fl, DC_of h1, hk]
  refine h2.imp ?_
  rintro o ⟨h3, f3⟩ ⟨pl, rfl, hp, hf, hs, hl⟩
  simp only at hf hs hl
  have hs0 : Sub h0 h3 := ((Sub.refl h0).app _).trans hs
  simp [joined_fl, hf]
  refine (presentation_ hE hl hS).imp ?_
  rintro o ⟨h4, f4⟩ ⟨v, rfl, hs4, hf4, hM⟩
  simp only at hf4 hs4 hM
  have hM0 := hM.mat
  have hone : one1 v = true := by obtain ⟨va, vb, vo, vc, vvs, hv, hvr⟩ := hM0; rw [hv]; rfl
  have hl3 := hs.len
  simp at hl3
  have hl4 := hs4.len
  have hmin4 : min h0.length h4.length = h0.length := by omega
  obtain ⟨G, hGe⟩ : ∃ G, G = dgOf n x s L := ⟨_, rfl⟩
  have hG : GoodG G := by rw [hGe]; exact good_of hS
  have hGn : G.n = n := by rw [hGe]; rfl
  have hGL : G.L = L := by rw [hGe]; rfl
  rw [← hGe] at hM hM0 ⊢
  have hac := arC_le G
  have hsz := hG.size
  have hloops := hG.loops
  rw [hGL] at hloops
  obtain ⟨H, hH⟩ : ∃ H, H = h4 ++ [O.cells [.int .i64 (arC G + L), v] 81 (some 0)] := ⟨_, rfl⟩
  have hlH : H.length = h4.length + 1 := by rw [hH]; simp
  have hsH : Sub h4 H := by rw [hH]; exact (Sub.refl _).app _
  have hs0H : Sub h0 H := (hs0.trans hs4).trans hsH
  have q6 : H[h4.length]? = some (.cells [.int .i64 (arC G + L), v] 81 (some 0)) := by rw [hH, app_at0]; rfl
  obtain ⟨aa, ab, ao, ac, avs, rfl, ha, har⟩ := hA.at
  unfold checkD
  rw [hGL]
  have hq6' : ∀ l, (H ++ l)[h4.length]? = _ := fun l => app_of q6 l
  by_cases hg : (A.length : Int) = arC G + L
  ·have hg' : (arC G : Int) + L = (A.length : Int) := hg.symm
   rw [if_pos hg]
   rw [hg'] at hH q6 
   simp [joined_fl, hf4, wrN_at0, hone, set_at0, hmin4, hg', ← hH, rd_def, q6]
   have hsc : ∀ z : Int, (Out.ret (.int .i64 z)).scalar = true := fun _ => rfl
   have hA600 : A.length ≤ 600 := by omega
   have hrow0 := fun (hpos : 0 < A.length) => har 0 hpos
   refine DW_loop (fun kk fr st => ∃ (i : Nat) (h : List O) (uv : Value) (vs : List Value), i + kk = A.length ∧ st = ⟨h, h0.length⟩ ∧ Sub H h ∧ OwnS h H.length uv i vs 34 1 ∧ InvI h H.length (nthR A 0).length A i vs ∧ (∀ q, q < i → (nthR A q).length = (nthR A 0).length ∧ PermB (nthR A q)) ∧
    get fr 1 = .slice aa A.length ac ∧ get fr 6 = .pointer (some ⟨h4.length, 0, none⟩) ∧ get fr 7 = uv ∧ get fr 25 = .slice aa A.length ac ∧ get fr 26 = .int .i64 A.length ∧ get fr 27 = .int .i64 i) ?_ (k := A.length) ?_
   ·rintro kk fr st ⟨i, h, uv, vs, hik, rfl, hsub, hu, hR, hok, g1, g6, g7, g25, g26, g27⟩
    have hs0h : Sub h0 h := hs0H.trans hsub
    have hhl := hsub.len
    by_cases hi : i < A.length
    ·have hw : IntKind.i64.wrap ((i : Int) + 1) = (i : Int) + 1 := by rw [w64_id] <;> omega
     obtain rfl := ha (by omega)
     obtain ⟨r1, r2⟩ := har i hi
     obtain ⟨r3, r4⟩ := har 0 (by omega)
     have r1' := hs0h.rdO r1
     have r3' := hs0h.rdO r3
     simp only [Nat.add_zero] at r3'
     have r2' := r2.sub hs0h
     have hpi := isPerm_ hE r2' (hroom i hi)
     obtain ⟨ra, rb, ro, rc, hrv, _, _⟩ := r2.at
     obtain ⟨sa, sb, so, sc, hsv, _, _⟩ := r4.at
     rw [hrv] at r1' hpi
     rw [hsv] at r3'
     have hpos : 0 < A.length := by omega
     by_cases hlen : (nthR A i).length = (nthR A 0).length
     ·rw [hlen] at hpi
      by_cases hP : PermB (nthR A i)
      ·have hrng : InN (nthR A i).length (nthR A i) := hP.1.rng
       have hinv := inverse_ hE r2' hrng (by have := hP.2.2; omega)
       rw [hrv, hlen] at hinv
       obtain ⟨H2, hH2⟩ : ∃ H2, H2 = h ++ [O.cells (intsC (invL (nthR A i))) 3 (some 0)] := ⟨_, rfl⟩
       have hl2 : H2.length = h.length + 1 := by rw [hH2]; simp
       have hE2 : Ext h H2 := by rw [hH2]; exact Ext.snoc _ _
       have hin : H2[h.length]? = some (O.cells (intsC (invL (nthR A i))) 3 (some 0)) := by rw [hH2, app_at0]; rfl
       have hu2 : OwnS (H2 ++ [.cells [.slice (some ⟨h.length, 0, none⟩) (nthR A i).length (nthR A i).length] 34 (some 0)]) H.length uv i vs 34 1 := hu.ext (hE2.trans (Ext.snoc _ _))
       have hread : readSlice (H2 ++ [.cells [.slice (some ⟨h.length, 0, none⟩) (nthR A i).length (nthR A i).length] 34 (some 0)]) 1 1 (some ⟨H2.length, 0, none⟩) = some [.slice (some ⟨h.length, 0, none⟩) (nthR A i).length (nthR A i).length] := by simp [readSlice, rdN_at0]
       obtain ⟨b', H4, f4, happ, hb', hown, hf1, hf2, hL4, K4⟩ := append_S (fl := h0.length) (c := 1) (bytes := 24) hu2 hread (by simp) (by simp) (by simp; omega) (by simp only [roomMax]; omega) (by omega)
       obtain rfl : f4 = h0.length := by omega
       have hnei : ∀ (b : Nat) (cs : List Value) (ow : Option Nat), H2[b]? = some (.cells cs 3 ow) → ∀ n' c', uv ≠ .slice (some ⟨b, 0, none⟩) n' c' := fun b cs ow hb n' c' e => by
        rcases hu.2 with ⟨h1, _⟩ | ⟨b2, s2, h1, h2, h3, _⟩
        ·rw [e] at h1; cases h1
        ·rw [e] at h1
         simp only [Value.slice.injEq, Option.some.injEq, Addr.mk.injEq] at h1
         obtain ⟨l, hl⟩ := hE2
         rw [h1.1.1, hl, app_of h3] at hb
         cases hb
       have hneH : ∀ (b : Nat), b < H.length → ∀ n' c', uv ≠ .slice (some ⟨b, 0, none⟩) n' c' := fun b hb n' c' e => by
        rcases hu.2 with ⟨h1, _⟩ | ⟨b2, s2, h1, h2, h3, _⟩
        ·rw [e] at h1; cases h1
        ·rw [e] at h1
         simp only [Value.slice.injEq, Option.some.injEq, Addr.mk.injEq] at h1
         omega
       have happ2 := happ
       rw [hl2] at happ2
       simp only [hlen, hH2, List.append_assoc, List.cons_append, List.nil_append] at happ2
       simp [g1, g6, g7, g25, g26, g27, hi, rd_def, r1', r3', hpos, hlen, DC_of hpi, hP, DC_of hinv, List.append_assoc, happ2, hw]
       have hrowlen : ∀ q, q < i + 1 → (nthR A q).length = (nthR A 0).length ∧ PermB (nthR A q) := fun q hq => by
        by_cases e : q = i
        ·rw [e]; exact ⟨hlen, hP⟩
        ·exact hok q (by omega)
       rw [hlen] at hown
       refine ⟨kk - 1, by omega, i + 1, by omega, fun b o hb => ?_, _, vs ++ [.slice (some ⟨h.length, 0, none⟩) (nthR A 0).length (nthR A 0).length], hown, fun q hq => ?_, hrowlen, rfl, by omega⟩
       ·have := (List.getElem?_eq_some_iff.1 hb).1
        obtain ⟨l, hl⟩ := hE2
        exact K4 b o (by rw [hl, List.append_assoc]; exact app_of (hsub b o hb) _) (hneH b this)
       ·have hvl : vs.length = i := by have := hu.1; omega
        by_cases e : q < i
        ·obtain ⟨b, q1, q2, q3⟩ := hR q e
         have hq3 : H2[b]? = some (O.cells (intsC (invL (nthR A q))) 3 (some 0)) := by rw [hH2]; exact app_of q3 _
         exact ⟨b, by rw [List.getElem?_append_left (by omega)]; exact q1, q2, K4 b _ (app_of hq3 _) (hnei b _ _ hq3)⟩
        ·have hqi : q = i := by omega
         subst hqi
         exact ⟨h.length, by rw [List.getElem?_append_right (by omega), hvl]; simp, by omega, K4 _ _ (app_of hin _) (hnei _ _ _ hin)⟩
      ·have hno : ¬ PermsA A := fun h => hP (h i hi).2
       simp [g1, g6, g7, g25, g26, g27, hi, rd_def, r1', r3', hpos, hlen, DC_of hpi, hP, hno, endK_ret, back_scalar, hsc]
     ·have hno : ¬ PermsA A := fun h => hlen (h i hi).1
      simp [g1, g6, g7, g25, g26, g27, hi, rd_def, r1', r3', hpos, hlen, hno, endK_ret, back_scalar, hsc]
    ·have hin : i = A.length := by omega
     subst hin
     have hP : PermsA A := hok
     have hmA := hA.sub hs0h
     have hmB := InvI.mat hR hu rfl (fun q hq => ⟨(hok q hq).1, by rw [← (hok q hq).1]; exact (hok q hq).2.1⟩) ⟨by
      rcases Nat.eq_zero_or_pos A.length with h | h
      ·have : A = [] := List.length_eq_zero_iff.1 h
       rw [this]; simp [nthR]
      ·have := (hok 0 h).2.2.2; omega, by omega⟩
     have q6h := hsub _ _ q6
     have hmv := hM0.sub (hsH.trans hsub)
     obtain ⟨va, vb, vo, vc, vvs, rfl, hva, hvr⟩ := hmv.at
     rw [relL_length, hGn] at hva hvr q6h
     obtain ⟨ba, bb, bo, bc, bvs, hbv, _, _⟩ := hmB.at
     rw [if_pos hP]
     have hs0m := fun (hpos : 0 < A.length) => hs0h.rdO (har 0 hpos).1
     simp [g1, g6, g7, g25, g26, g27, rd_def, q6h]
     refine DW_loop (fun kk fr st => ∃ (m : Nat), m + kk = n ∧ st = ⟨h, h0.length⟩ ∧ (∀ q, q < m → TrivL A (invA A) (relOf G q) (nthR A 0).length) ∧
      get fr 1 = .slice aa A.length ac ∧ get fr 7 = uv ∧ get fr 50 = .slice va n vc ∧ get fr 51 = .int .i64 n ∧ get fr 52 = .int .i64 m) ?_ (k := n) ?_
     ·clear g1 g6 g7 g25 g26 g27
      rintro kk fr st ⟨m, hmk, rfl, htr, g1, g7, g50, g51, g52⟩
      by_cases hm : m < n
      ·have hw : IntKind.i64.wrap ((m : Int) + 1) = (m : Int) + 1 := by rw [w64_id] <;> omega
       obtain rfl := hva (by omega)
       obtain ⟨p1, p2⟩ := hvr m hm
       rw [relL_nth (by rw [hGn]; exact hm)] at p2
       have hgp := arN_lt (hG.X m 0 (by rw [hGn]; exact hm) (by omega))
       have hpos : 0 < A.length := by omega
       obtain rfl := ha hpos
       have r3' := hs0m hpos
       simp only [Nat.add_zero] at r3'
       obtain ⟨sa, sb, so, sc, hsv, _, _⟩ := ((har 0 hpos).2).at
       rw [hsv] at r3'
       have hn200 := (hok 0 hpos).2.2.2
       have htv := isTrivial_ hE hmA hmB p2 hP.rows hP.inv (invA_length A) (relOf_let hG (by rw [hGn]; exact hm) (by omega)) ⟨by omega, by omega⟩
       by_cases ht : TrivL A (invA A) (relOf G m) (nthR A 0).length
       ·simp [g1, g7, g50, g51, g52, hm, rd_def, p1, hpos, r3', DC_of htv, ht, hw]
        refine ⟨kk - 1, by omega, m + 1, by omega, fun q hq => ?_, by omega⟩
        by_cases e : q = m
        ·rw [e]; exact ht
        ·exact htr q (by omega)
       ·have hno : ¬ HomA G A := fun hh => ht (hh m (by rw [hGn]; exact hm))
        simp [g1, g7, g50, g51, g52, hm, rd_def, p1, hpos, r3', DC_of htv, ht, hno, endK_ret, back_scalar, hsc]
      ·have hmn : m = n := by omega
       subst hmn
       have hyes : HomA G A := fun q hq => htr q (by rw [hGn] at hq; exact hq)
       simp [g1, g7, g50, g51, g52, hyes, endK_ret, back_scalar, hsc]
     ·exact ⟨0, by omega, rfl, fun q h => by omega, by simp [g1, g7]⟩
   ·exact ⟨0, H, .slice none 0 0, [], by omega, rfl, Sub.refl _, OwnS.nil _ _ _ _, fun q hq => by omega, fun q hq => by omega, by simp⟩
  ·rw [if_neg hg]
   simp [joined_fl, hf4, wrN_at0, hone, set_at0, hmin4, ← hH, rd_def, q6, hg, endK_ret, back_scalar, Out.scalar, scalar, flat1, flat]
 ·simp [dV, rdN_at0, joined_fl, DC_of h1, hk, endK_ret, back_scalar, Out.scalar, scalar, flat1, flat]
end Go.Proofs.Ytjlkndkedknocaa
namespace Go.Ai
theorem PartI.sub {h h' : List O} {v : Value} (k : PartI h v) (e : Sub h h') : PartI h' v := by
 obtain ⟨a, n, c, h1, h2, h3⟩ := k
 refine ⟨a, n, c, h1, h2, fun b o ha => ?_⟩
 have ht := h3 b o ha
 unfold tagOk at ht ⊢
 cases hb : h[b]? with
 | none => rw [hb] at ht; simp at ht
 | some y => rw [e _ _ hb]; rw [hb] at ht; exact ht
def MatP (h : List O) (v : Value) (A : List (List Int)) : Prop :=
 ∃ a b o c, ∃ vs : Nat → Value, v = .slice a A.length c ∧ (0 < A.length → a = some ⟨b, o, none⟩) ∧ (∀ i, i < A.length → rdO h[b]? (o + i) = some (vs i) ∧ Ints h (vs i) (nthR A i) ∧ PartI h (vs i)) ∧ A.length < 2 ^ 62
theorem MatP.mat {h : List O} {v : Value} {A : List (List Int)} (k : MatP h v A) : Mat h v A := by
 obtain ⟨a, b, o, c, vs, h1, h2, h3, h4⟩ := k
 exact ⟨a, b, o, c, vs, h1, h2, fun i hi => ⟨by rw [rd_def]; exact (h3 i hi).1, (h3 i hi).2.1⟩, h4⟩
theorem MatP.sub {h h' : List O} {v : Value} {A : List (List Int)} (k : MatP h v A) (e : Sub h h') : MatP h' v A := by
 obtain ⟨a, b, o, c, vs, h1, h2, h3, h4⟩ := k
 exact ⟨a, b, o, c, vs, h1, h2, fun i hi => ⟨Sub.rdO e (h3 i hi).1, (h3 i hi).2.1.sub e, (h3 i hi).2.2.sub e⟩, h4⟩
end Go.Ai
namespace Go.Proofs.Ytjlkndkedknocaa
open Go Go.Ai
attribute [local instance] Classical.propDecidable
variable {E : Env} (hE : OE E)
include hE
end Go.Proofs.Ytjlkndkedknocaa
