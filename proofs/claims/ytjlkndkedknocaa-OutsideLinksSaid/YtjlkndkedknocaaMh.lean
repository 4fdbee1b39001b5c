/- Texts that were built one by one: Ra21, Ra22, Rg2, Ra23, Ra24, Ra25, Rk5, Rk6, Rk7, Rk8, Rk9, Rk3, Rk4, Rm1, Rm2, Rm3, Rm4. -/
import Derived.Test.YtjlkndkedknocaaMg
import Derived.Test.YtjlkndkedknocaaMc
set_option linter.unusedSimpArgs false
set_option linter.unusedVariables false
namespace Go.Ai
attribute [local instance] Classical.propDecidable
structure NumI (cls ys : List Int) (N i cnt : Nat) : Prop where
 len : ys.length = N
 val : ∀ a, a < i → 0 ≤ nth ys a ∧ nth ys a < cnt
 rel : ∀ a b, a < i → b < i → (nth ys a = nth ys b ↔ nth cls a = nth cls b)
 ord : ∀ j : Nat, j < cnt → ∃ a, a < i ∧ nth ys a = j ∧ ∀ b, b < a → nth ys b < j
def NumJ (cls ys ys' : List Int) (i j : Nat) : Prop := ys'.length = ys.length ∧ (∀ a, a ≠ i → nth ys' a = nth ys a) ∧ ((nth ys' i = -1 ∧ ∀ j', j' < j → nth cls j' ≠ nth cls i) ∨ ∃ j0, j0 < i ∧ nth ys' i = nth ys j0 ∧ nth cls j0 = nth cls i)
theorem NumI.old {cls ys ys' : List Int} {N i cnt j0 : Nat} (h : NumI cls ys N i cnt) (hl : ys'.length = ys.length) (he : ∀ a, a ≠ i → nth ys' a = nth ys a) (hj : j0 < i) (h1 : nth ys' i = nth ys j0) (h2 : nth cls j0 = nth cls i) : NumI cls ys' N (i + 1) cnt := by
 have hv : ∀ a, a < i → nth ys' a = nth ys a := fun a ha => he a (by omega)
 refine ⟨by rw [hl, h.len], fun a ha => ?_, fun a b ha hb => ?_, fun j hj' => ?_⟩
 ·by_cases e : a = i
  ·rw [e, h1]; exact h.val _ hj
  ·rw [hv a (by omega)]; exact h.val a (by omega)
 ·by_cases ea : a = i
  ·by_cases eb : b = i
   ·rw [ea, eb]; simp
   ·rw [ea, h1, hv b (by omega), h.rel _ _ hj (by omega), h2]
  ·by_cases eb : b = i
   ·rw [eb, h1, hv a (by omega), h.rel _ _ (by omega) hj, h2]
   ·rw [hv a (by omega), hv b (by omega)]; exact h.rel a b (by omega) (by omega)
 ·obtain ⟨a, a1, a2, a3⟩ := h.ord j hj'
  exact ⟨a, by omega, by rw [hv a a1]; exact a2, fun b hb => by rw [hv b (by omega)]; exact a3 b hb⟩
theorem NumI.new {cls ys ys' : List Int} {N i cnt : Nat} (h : NumI cls ys N i cnt) (hl : ys'.length = ys.length) (he : ∀ a, a ≠ i → nth ys' a = nth ys a) (h1 : nth ys' i = cnt) (h2 : ∀ j', j' < i → nth cls j' ≠ nth cls i) : NumI cls ys' N (i + 1) (cnt + 1) := by
 have hv : ∀ a, a < i → nth ys' a = nth ys a := fun a ha => he a (by omega)
 refine ⟨by rw [hl, h.len], fun a ha => ?_, fun a b ha hb => ?_, fun j hj' => ?_⟩
 ·by_cases e : a = i
  ·rw [e, h1]; omega
  ·rw [hv a (by omega)]; have := h.val a (by omega); omega
 ·by_cases ea : a = i
  ·by_cases eb : b = i
   ·rw [ea, eb]; simp
   ·rw [ea, h1, hv b (by omega)]
    have := h.val b (by omega)
    constructor
    ·intro e; omega
    ·intro e; exact absurd e.symm (h2 b (by omega))
  ·by_cases eb : b = i
   ·rw [eb, h1, hv a (by omega)]
    have := h.val a (by omega)
    constructor
    ·intro e; omega
    ·intro e; exact absurd e (h2 a (by omega))
   ·rw [hv a (by omega), hv b (by omega)]; exact h.rel a b (by omega) (by omega)
 ·by_cases ej : j = cnt
  ·refine ⟨i, by omega, by rw [h1, ej], fun b hb => ?_⟩
   rw [hv b hb, ej]; exact (h.val b hb).2
  ·obtain ⟨a, a1, a2, a3⟩ := h.ord j (by omega)
   exact ⟨a, by omega, by rw [hv a a1]; exact a2, fun b hb => by rw [hv b (by omega)]; exact a3 b hb⟩
theorem NumI.numb {cls ys : List Int} {N cnt : Nat} (h : NumI cls ys N N cnt) : Numb N (fun a b => nth cls a = nth cls b) (fun a => (nth ys a).toNat) cnt := by
 refine ⟨fun a b ha hb => ?_, fun a ha => ?_, fun j hj => ?_⟩
 ·rw [← h.rel a b ha hb]
  have h1 := h.val a ha
  have h2 := h.val b hb
  constructor
  ·intro e; omega
  ·intro e; rw [e]
 ·have := h.val a ha; omega
 ·obtain ⟨a, a1, a2, a3⟩ := h.ord j hj
  exact ⟨a, a1, by rw [a2]; rfl, fun b hb => by have := a3 b hb; have := h.val b (by omega); omega⟩
end Go.Ai
namespace Go.Proofs.Ytjlkndkedknocaa
open Go Go.Ai
attribute [local instance] Classical.propDecidable
variable {E : Env} (hE : OE E)
include hE
theorem start_ {h0 : List O} {N : Nat} (hN : N ≤ 100000) :
  DC E 96 [.int .i64 N] ⟨h0, h0.length⟩ fun o st' => ∃ cls : List Int, o = .ret (.slice (some ⟨h0.length, 0, none⟩) N N) ∧ h0.length ≤ st'.fl ∧ Sub h0 st'.h ∧ AtB st'.h h0.length (.cells (intsC cls) 3 (some 0)) ∧ cls.length = N ∧ ∀ a, a < N → nth cls a = a := by
 refine hE.fnC (body := rb96) rfl ?_
 unfold rb96
 have e1 : (N : Int) * 8 ≤ 140737488355328 := by omega
 have e2 : (N : Int) < 4611686018427387904 := by omega
 simp [e1, e2]
 refine DW_loop (fun kk fr st => ∃ (i : Nat) (h : List O) (xs : List Int), i + kk = N ∧ st = ⟨h, h0.length⟩ ∧ Sub h0 h ∧ AtB h h0.length (.cells (intsC xs) 3 (some 0)) ∧ xs.length = N ∧ (∀ j, j < i → nth xs j = j) ∧ get fr 0 = .int .i64 N ∧ get fr 3 = .slice (some ⟨h0.length, 0, none⟩) N N ∧ get fr 4 = .int .i64 i) ?_ (k := N) ?_
 ·rintro kk fr st ⟨i, h, xs, hik, rfl, hsub, hatB, hlen, hm, g0, g3, g4⟩
  have hat := hatB
  unfold AtB at hat
  by_cases hi : i < N
  ·have hw : IntKind.i64.wrap ((i : Int) + 1) = (i : Int) + 1 := by rw [w64_id] <;> omega
   have hi2 : i < xs.length := by omega
   have hi3 : i + 1 ≤ N := by omega
   simp [g0, g3, g4, hi, wrN_def, hat, hlen, intsC_set, hw, hi3]
   refine ⟨kk - 1, by omega, i + 1, by omega, hsub.set (Nat.le_refl _) _, xs.set i i, set_self hat, by simp [hlen], fun j hj => ?_, by omega⟩
   rw [nth_set hi2]
   by_cases e : j = i
   ·rw [if_pos e, e]
   ·rw [if_neg e]; exact hm j (by omega)
  ·have hin : i = N := by omega
   simp [g0, g3, g4, hi, endK_ret]
   unfold pairQ back
   rw [if_neg (by simp [Out.scalar, scalar, flat1, flat])]
   exact ⟨rfl, Nat.le_refl _, hsub, xs, hatB, hlen, fun a ha => hm a (by omega)⟩
 ·refine ⟨0, _, List.replicate N 0, by omega, rfl, (Sub.refl h0).app _, ?_, by simp, fun j h => by omega, by simp⟩
  unfold AtB
  rw [app_at0]
  simp [rep, intsC]
theorem merged_ {h : List O} {b N : Nat} {cls : List Int} {s0 : Nat} (hb : h[b]? = some (.cells (intsC cls) 3 (some s0))) (hl : cls.length = N) (hN : N ≤ 100000) {u w : Nat} (hu : u < N) (hw : w < N) :
  DC E 98 [.slice (some ⟨b, 0, none⟩) N N, .int .i64 u, .int .i64 w] ⟨h, h.length⟩ fun o st' => ∃ cls' : List Int, o = .ret (.slice (some ⟨b, 0, none⟩) N N) ∧ b ≤ st'.fl ∧ st'.h.length = h.length ∧ (∀ (c : Nat) (o : O), h[c]? = some o → c ≠ b → st'.h[c]? = some o) ∧
   AtB st'.h b (.cells (intsC cls') 3 (some s0)) ∧ cls'.length = N ∧ ∀ a, a < N → nth cls' a = if nth cls a = max (nth cls u) (nth cls w) then min (nth cls u) (nth cls w) else nth cls a := by
 refine hE.fnC (body := rb98) rfl ?_
 unfold rb98
 have lb := (List.getElem?_eq_some_iff.1 hb).1
 have hu2 : u < cls.length := by omega
 have hw2 : w < cls.length := by omega
 obtain ⟨lo, hlo⟩ : ∃ lo, lo = min (nth cls u) (nth cls w) := ⟨_, rfl⟩
 obtain ⟨hi, hhi⟩ : ∃ hi, hi = max (nth cls u) (nth cls w) := ⟨_, rfl⟩
 simp [hu, hw, rd_def, hb, intsC_get hu2, intsC_get hw2, ← hlo, ← hhi]
 refine DW_loop (fun kk fr st => ∃ (i : Nat) (h' : List O) (f : Nat) (xs : List Int), i + kk = N ∧ st = ⟨h', f⟩ ∧ b ≤ f ∧ h'.length = h.length ∧ (∀ (c : Nat) (o : O), h[c]? = some o → c ≠ b → h'[c]? = some o) ∧ AtB h' b (.cells (intsC xs) 3 (some s0)) ∧ xs.length = N ∧ (∀ j, nth xs j = if j < i ∧ nth cls j = hi then lo else nth cls j) ∧ get fr 0 = .slice (some ⟨b, 0, none⟩) N N ∧ get fr 7 = .int .i64 lo ∧ get fr 8 = .int .i64 hi ∧ get fr 9 = .int .i64 i) ?_ (k := N) ?_
 ·rintro kk fr st ⟨i, h', f, xs, hik, rfl, hf, hl', hk, hatB, hlen, hm, g0, g7, g8, g9⟩
  have hat := hatB
  unfold AtB at hat
  by_cases hiN : i < N
  ·have hwi : IntKind.i64.wrap ((i : Int) + 1) = (i : Int) + 1 := by rw [w64_id] <;> omega
   have hi2 : i < xs.length := by omega
   have hi3 : i + 1 ≤ N := by omega
   have hxi : nth xs i = nth cls i := by rw [hm, if_neg (by omega)]
   by_cases hc : nth cls i = hi
   ·have hc2 : nth xs i = hi := by omega
    simp [g0, g7, g8, g9, hiN, rd_def, wrN_def, hat, hlen, intsC_get hi2, hc2, intsC_set, hwi, hi3]
    refine ⟨kk - 1, by omega, i + 1, by omega, _, _, ⟨rfl, rfl⟩, by omega, by simp [hl'], fun c o hb hn => set_ne (hk c o hb hn) hn, xs.set i lo, set_self hat, by simp [hlen], fun j => ?_, by omega⟩
    rw [nth_set hi2]
    by_cases e : j = i
    ·rw [if_pos e, if_pos ⟨by omega, by rw [e]; exact hc⟩]
    ·rw [if_neg e, hm]
     by_cases h1 : j < i ∧ nth cls j = hi
     ·rw [if_pos h1, if_pos ⟨by omega, h1.2⟩]
     ·rw [if_neg h1, if_neg fun h2 => h1 ⟨by omega, h2.2⟩]
   ·have hc2 : ¬ nth xs i = hi := by omega
    simp [g0, g7, g8, g9, hiN, rd_def, hat, hlen, intsC_get hi2, hc2, hwi]
    refine ⟨kk - 1, by omega, i + 1, by omega, _, _, ⟨rfl, rfl⟩, hf, hl', hk, xs, hatB, hlen, fun j => ?_, by omega⟩
    rw [hm]
    by_cases h1 : j < i ∧ nth cls j = hi
    ·rw [if_pos h1, if_pos ⟨by omega, h1.2⟩]
    ·rw [if_neg h1, if_neg fun h2 => h1 ⟨by
      rcases Nat.lt_or_ge j i with h3 | h3
      ·exact h3
      ·have : j = i := by omega
       rw [this] at h2; exact absurd h2.2 hc, h2.2⟩]
  ·simp [g0, g7, g8, g9, hiN, endK_ret]
   unfold pairQ back
   rw [if_neg (by simp [Out.scalar, scalar, flat1, flat])]
   refine ⟨rfl, hf, hl', hk, xs, hatB, hlen, fun a ha => ?_⟩
   rw [hm]
   by_cases h1 : nth cls a = hi
   ·rw [if_pos ⟨by omega, h1⟩, if_pos h1]
   ·rw [if_neg (fun h2 => h1 h2.2), if_neg h1]
 ·exact ⟨0, h, h.length, cls, by omega, rfl, by omega, rfl, fun c o hb _ => hb, hb, hl, fun j => by rw [if_neg (by omega)], by simp⟩
theorem numbered_ {h0 : List O} {b N : Nat} {cls : List Int} {s0 : Option Nat} (hb : h0[b]? = some (.cells (intsC cls) 3 s0)) (hl : cls.length = N) (hN : N ≤ 100000) :
  DC E 100 [.slice (some ⟨b, 0, none⟩) N N] ⟨h0, h0.length⟩ fun o st' => ∃ (ys : List Int) (cnt : Nat), o = .ret (.slice (some ⟨h0.length, 0, none⟩) N N) ∧ h0.length ≤ st'.fl ∧ Sub h0 st'.h ∧ AtB st'.h h0.length (.cells (intsC ys) 3 (some 0)) ∧ NumI cls ys N N cnt ∧ cnt ≤ N := by
 refine hE.fnC (body := rb100) rfl ?_
 unfold rb100
 have e1 : (N : Int) * 8 ≤ 140737488355328 := by omega
 have e2 : (N : Int) < 4611686018427387904 := by omega
 simp [e1, e2]
 refine DW_loop (fun kk fr st => ∃ (i : Nat) (h : List O) (ys : List Int) (cnt : Nat), i + kk = N ∧ st = ⟨h, h0.length⟩ ∧ Sub h0 h ∧ AtB h h0.length (.cells (intsC ys) 3 (some 0)) ∧ NumI cls ys N i cnt ∧ cnt ≤ i ∧ get fr 0 = .slice (some ⟨b, 0, none⟩) N N ∧ get fr 3 = .slice (some ⟨h0.length, 0, none⟩) N N ∧ get fr 4 = .int .i64 cnt ∧ get fr 5 = .int .i64 i) ?_ (k := N) ?_
 ·rintro kk fr st ⟨i, h, ys, cnt, hik, rfl, hsub, hatB, hI, hcn, g0, g3, g4, g5⟩
  have hat := hatB
  unfold AtB at hat
  have hlen := hI.len
  by_cases hi : i < N
  ·have hi2 : i < ys.length := by omega
   have hi3 : i + 1 ≤ N := by omega
   have hic : i < cls.length := by omega
   have hwi : IntKind.i64.wrap ((i : Int) + 1) = (i : Int) + 1 := by rw [w64_id] <;> omega
   have hwc : IntKind.i64.wrap ((cnt : Int) + 1) = (cnt : Int) + 1 := by rw [w64_id] <;> omega
   simp [g0, g3, g4, g5, hi, wrN_def, hat, hlen, intsC_set, hi3]
   refine DW_loop (fun kk' fr st => ∃ (j : Nat) (h : List O) (zs : List Int), j + kk' = i ∧ st = ⟨h, h0.length⟩ ∧ Sub h0 h ∧ AtB h h0.length (.cells (intsC zs) 3 (some 0)) ∧ NumJ cls ys zs i j ∧ get fr 0 = .slice (some ⟨b, 0, none⟩) N N ∧ get fr 3 = .slice (some ⟨h0.length, 0, none⟩) N N ∧ get fr 4 = .int .i64 cnt ∧ get fr 5 = .int .i64 i ∧ get fr 6 = .int .i64 j) ?_ (k := i) ?_
   ·clear g0 g3 g4 g5 hsub hatB hat
    clear h
    rintro kk' fr st ⟨j, h, zs, hjk, rfl, hsub, hatB, hJ, g0, g3, g4, g5, g6⟩
    have hat := hatB
    unfold AtB at hat
    obtain ⟨j1, j2, j3⟩ := hJ
    have hiz : i < zs.length := by omega
    have hbh := hsub _ _ hb
    have hzl : zs.length = N := by omega
    by_cases hj : j < i
    ·have hwj : IntKind.i64.wrap ((j : Int) + 1) = (j : Int) + 1 := by rw [w64_id] <;> omega
     have hjz : j < zs.length := by omega
     have hjc : j < cls.length := by omega
     have hjN : j < N := by omega
     rcases j3 with ⟨j3, j4⟩ | ⟨j0, k1, k2, k3⟩
     ·by_cases he : nth cls j = nth cls i
      ·simp [g0, g3, g4, g5, g6, hj, hi, hjN, rd_def, wrN_def, hat, hbh, intsC_get hiz, intsC_get hjz, intsC_get hjc, intsC_get hic, j3, he, intsC_set, hzl, hi3, hwj]
       refine ⟨kk' - 1, by omega, j + 1, by omega, hsub.set (Nat.le_refl _) _, zs.set i (nth zs j), set_self hat, ⟨by simp [j1], fun a ha => ?_, .inr ⟨j, hj, ?_, he⟩⟩, by omega⟩
       ·rw [nth_set hiz, if_neg ha]; exact j2 a ha
       ·rw [nth_set hiz, if_pos rfl]; exact j2 j (by omega)
      ·simp [g0, g3, g4, g5, g6, hj, hi, hjN, rd_def, hat, hbh, intsC_get hiz, intsC_get hjc, intsC_get hic, j3, he, hwj]
       refine ⟨kk' - 1, by omega, j + 1, by omega, hsub, zs, hatB, ⟨j1, j2, .inl ⟨j3, fun j' hj' => ?_⟩⟩, by omega⟩
       by_cases e : j' = j
       ·rw [e]; exact he
       ·exact j4 j' (by omega)
     ·have hv := hI.val j0 k1
      have hng : ¬ nth zs i < 0 := by omega
      simp [g0, g3, g4, g5, g6, hj, hi, rd_def, hat, intsC_get hiz, hng, hwi]
      exact ⟨kk - 1, by omega, i + 1, by omega, hsub, zs, hatB, cnt, hI.old j1 j2 k1 k2 k3, by omega, rfl, by omega⟩
    ·have hji : j = i := by omega
     rcases j3 with ⟨j3, j4⟩ | ⟨j0, k1, k2, k3⟩
     ·simp [g0, g3, g4, g5, g6, hj, hi, rd_def, wrN_def, hat, intsC_get hiz, j3, intsC_set, hzl, hi3, hwi, hwc]
      refine ⟨kk - 1, by omega, i + 1, by omega, hsub.set (Nat.le_refl _) _, zs.set i cnt, set_self hat, cnt + 1, hI.new (by simp [j1]) (fun a ha => ?_) ?_ (fun j' hj' => j4 j' (by omega)), by omega, by omega, by omega⟩
      ·rw [nth_set hiz, if_neg ha]; exact j2 a ha
      ·rw [nth_set hiz, if_pos rfl]
     ·have hv := hI.val j0 k1
      have hng : ¬ nth zs i < 0 := by omega
      simp [g0, g3, g4, g5, g6, hj, hi, rd_def, hat, intsC_get hiz, hng, hwi]
      exact ⟨kk - 1, by omega, i + 1, by omega, hsub, zs, hatB, cnt, hI.old j1 j2 k1 k2 k3, by omega, rfl, by omega⟩
   ·refine ⟨0, _, ys.set i (-1), by omega, rfl, hsub.set (Nat.le_refl _) _, set_self hat, ⟨by simp, fun a ha => by rw [nth_set hi2, if_neg ha], .inl ⟨by rw [nth_set hi2, if_pos rfl], fun j' hj' => by omega⟩⟩, by simp [g0, g3, g4, g5]⟩
  ·have hin : i = N := by omega
   simp [g0, g3, g4, g5, hi, endK_ret]
   unfold pairQ back
   rw [if_neg (by simp [Out.scalar, scalar, flat1, flat])]
   rw [hin] at hI hcn
   exact ⟨rfl, Nat.le_refl _, hsub, ys, hatB, cnt, hI, hcn⟩
 ·refine ⟨0, _, List.replicate N 0, 0, by omega, rfl, (Sub.refl h0).app _, ?_, ⟨by simp, fun a ha => by omega, fun a b ha => by omega, fun j hj => by omega⟩, by omega, by simp⟩
  unfold AtB
  rw [app_at0]
  simp [rep, intsC]
theorem countN_ {h : List O} {b N : Nat} {cls ys : List Int} {s0 : Option Nat} {cnt : Nat} (hb : h[b]? = some (.cells (intsC ys) 3 s0)) (hI : NumI cls ys N N cnt) (hc : cnt ≤ N) (hN : N ≤ 100000) :
  DR E 32 [.slice (some ⟨b, 0, none⟩) N N] ⟨h, h.length⟩ (.ret (.int .i64 cnt)) ⟨h, h.length⟩ := by
 refine hE.fn (body := rb32) rfl ?_
 unfold rb32
 have hlen := hI.len
 simp
 refine DW_loop (fun kk fr st => ∃ (i w : Nat), i + kk = N ∧ st = ⟨h, h.length⟩ ∧ (∀ j, j < i → nth ys j + 1 ≤ w) ∧ w ≤ cnt ∧ get fr 0 = .slice (some ⟨b, 0, none⟩) N N ∧ get fr 3 = .int .i64 w ∧ get fr 4 = .int .i64 i) ?_ (k := N) ?_
 ·rintro kk fr st ⟨i, w, hik, rfl, hw, hwk, g0, g3, g4⟩
  by_cases hi : i < N
  ·have hwr : IntKind.i64.wrap ((i : Int) + 1) = (i : Int) + 1 := by rw [w64_id] <;> omega
   have hi2 : i < ys.length := by omega
   have hv := hI.val i hi
   have hwr2 : IntKind.i64.wrap (nth ys i + 1) = nth ys i + 1 := by rw [w64_id] <;> omega
   simp [g0, g3, g4, hi, rd_def, hb, intsC_get hi2, hwr, hwr2]
   refine ⟨kk - 1, by omega, i + 1, by omega, max w ((nth ys i).toNat + 1), fun j hj => ?_, by omega, by omega, by omega⟩
   by_cases e : j = i
   ·rw [e]; omega
   ·have := hw j (by omega); omega
  ·have hwk2 : w = cnt := by
    apply Classical.byContradiction
    intro hne
    obtain ⟨a', ha1, ha2, _⟩ := hI.ord w (by omega)
    have := hw a' (by omega)
    omega
   subst hwk2
   simp [g0, g3, g4, hi]
 ·exact ⟨0, 0, by omega, rfl, fun j hj => by omega, by omega, by simp⟩
end Go.Proofs.Ytjlkndkedknocaa
namespace Go.Proofs.Ytjlkndkedknocaa
open Go Go.Ai
attribute [local instance] Classical.propDecidable
theorem FacesC.face {cs : List Value} {N : Nat} {F : Nat → Nat → Option (Nat × Bool)} (h : FacesC cs N F) {t f : Nat} (ht : t < N) (hf : f < 4) : (cs.drop (t * 20 + f * 5)).take 5 = fcC (F t f) := by
 have hl := h.1
 refine List.ext_getElem? fun j => ?_
 by_cases hj : j < 5
 ·rw [List.getElem?_take_of_lt hj, List.getElem?_drop]
  exact h.2 t f ht hf j hj
 ·rw [List.getElem?_eq_none (by simp; omega), List.getElem?_eq_none (by rw [fcC_len]; omega)]
theorem fcC_getP (x : Option (Nat × Bool)) {v : Nat} (hv : v < 4) : (fcC x)[1 + v]? = some (.int .i64 (fcP x v)) := by
 rw [fcC_eq]
 match v, hv with
 | 0, _ => rfl
 | 1, _ => rfl
 | 2, _ => rfl
 | 3, _ => rfl
structure ClI (G : Dg) (J : Nat) (cls : List Int) : Prop where
 len : cls.length = 16 * G.n
 sound : ∀ a b, a < 16 * G.n → b < 16 * G.n → nth cls a = nth cls b → VC (nbF (outF G)) a b
 comp : ∀ t f v w, t < 4 * G.n → f < 4 → v < 4 → (t * 4 + f) * 4 + v < J → nbF (outF G) (4 * t + v) f = some w → nth cls (4 * t + v) = nth cls w
theorem ClI.skip {G : Dg} {t f v : Nat} {cls : List Int} (h : ClI G ((t * 4 + f) * 4 + v) cls) (hf : f < 4) (hv : v < 4) (hn : nbF (outF G) (4 * t + v) f = none) : ClI G ((t * 4 + f) * 4 + (v + 1)) cls := by
 refine ⟨h.len, h.sound, fun t' f' v' w h1 h2 h3 h4 h5 => ?_⟩
 by_cases e : (t' * 4 + f') * 4 + v' = (t * 4 + f) * 4 + v
 ·have e1 : t' = t := by omega
  have e2 : f' = f := by omega
  have e3 : v' = v := by omega
  rw [e1, e2, e3, hn] at h5; cases h5
 ·exact h.comp t' f' v' w h1 h2 h3 (by omega) h5
theorem ClI.merge {G : Dg} (hG : GoodG G) {t f v w : Nat} {cls cls' : List Int} (h : ClI G ((t * 4 + f) * 4 + v) cls) (ht : t < 4 * G.n) (hf : f < 4) (hv : v < 4) (hw : nbF (outF G) (4 * t + v) f = some w) (hl : cls'.length = 16 * G.n)
  (hc : ∀ a, a < 16 * G.n → nth cls' a = if nth cls a = max (nth cls (4 * t + v)) (nth cls w) then min (nth cls (4 * t + v)) (nth cls w) else nth cls a) : ClI G ((t * 4 + f) * 4 + (v + 1)) cls' := by
 have hu : 4 * t + v < 16 * G.n := by omega
 have hwN := (nbF_sym hG hu hf hw).1
 obtain ⟨u, hue⟩ : ∃ u, u = 4 * t + v := ⟨_, rfl⟩
 rw [← hue] at hu hw hc
 have hV : VC (nbF (outF G)) u w := (VC.refl _).step f hf hw
 have hV' := VC_symm hG hu hV
 refine ⟨hl, fun a b ha hb he => ?_, fun t' f' v' w' h1 h2 h3 h4 h5 => ?_⟩
 ·rw [hc a ha, hc b hb] at he
  have toU : ∀ a, a < 16 * G.n → nth cls a = nth cls u ∨ nth cls a = nth cls w → VC (nbF (outF G)) a u := fun a ha h0 => by
   rcases h0 with h0 | h0
   ·exact h.sound a u ha hu h0
   ·exact (h.sound a w ha hwN h0).trans hV'
  by_cases c1 : nth cls a = max (nth cls u) (nth cls w)
  ·rw [if_pos c1] at he
   by_cases c2 : nth cls b = max (nth cls u) (nth cls w)
   ·exact h.sound a b ha hb (by omega)
   ·rw [if_neg c2] at he
    exact (toU a ha (by omega)).trans (VC_symm hG hb (toU b hb (by omega)))
  ·rw [if_neg c1] at he
   by_cases c2 : nth cls b = max (nth cls u) (nth cls w)
   ·rw [if_pos c2] at he
    exact (toU a ha (by omega)).trans (VC_symm hG hb (toU b hb (by omega)))
   ·rw [if_neg c2] at he
    exact h.sound a b ha hb he
 ·have hu' : 4 * t' + v' < 16 * G.n := by omega
  have hw' := (nbF_sym hG hu' h2 h5).1
  by_cases e : (t' * 4 + f') * 4 + v' = (t * 4 + f) * 4 + v
  ·have e1 : t' = t := by omega
   have e2 : f' = f := by omega
   have e3 : v' = v := by omega
   subst e1 e2 e3
   rw [← hue] at h5 hu' ⊢
   rw [hw] at h5
   obtain rfl := Option.some.inj h5
   rw [hc u hu, hc w hwN]
   split <;> split <;> omega
  ·rw [hc _ hu', hc _ hw', h.comp t' f' v' w' h1 h2 h3 (by omega) h5]
theorem ClI.fin {G : Dg} (hG : GoodG G) {cls : List Int} (h : ClI G (64 * G.n) cls) {a b : Nat} (ha : a < 16 * G.n) (hb : b < 16 * G.n) : nth cls a = nth cls b ↔ VC (nbF (outF G)) a b := by
 refine ⟨h.sound a b ha hb, fun hV => ?_⟩
 have key : ∀ c, VC (nbF (outF G)) a c → nth cls a = nth cls c := by
  intro c hc
  induction hc with
  | refl => rfl
  | @step d w f hab hf hw ih =>
   have hd := VC_lt hG ha hab
   rw [ih]
   have := h.comp (d / 4) f (d % 4) w (by omega) hf (Nat.mod_lt _ (by omega)) (by omega)
   rw [show 4 * (d / 4) + d % 4 = d by omega] at this
   exact this hw
 exact key b hV
end Go.Proofs.Ytjlkndkedknocaa
namespace Go.Proofs.Ytjlkndkedknocaa
open Go Go.Ai
attribute [local instance] Classical.propDecidable
def GluP (h : List O) (a : Option Addr) (N : Nat) (e : Nat → Nat → Nat × Bool) : Prop := 0 < N ∧ N ≤ 1000 ∧ ∃ b cs el own, a = some ⟨b, 0, none⟩ ∧ h[b]? = some (.cells cs el own) ∧ FacesC cs N (fun t f => some (e t f))
theorem GluP.sub {h h' : List O} {a : Option Addr} {N : Nat} {e : Nat → Nat → Nat × Bool} (k : GluP h a N e) (hs : Sub h h') : GluP h' a N e := by
 obtain ⟨h1, h2, b, cs, el, own, h3, h4, h5⟩ := k
 exact ⟨h1, h2, b, cs, el, own, h3, hs _ _ h4, h5⟩
def faceL (x : Nat × Bool) : List Value := [.int .i64 x.1, .int .i64 (pm x.2 0), .int .i64 (pm x.2 1), .int .i64 (pm x.2 2), .int .i64 (pm x.2 3)]
theorem faceL_eq (x : Nat × Bool) : fcC (some x) = faceL x := by
 obtain ⟨t, sw⟩ := x
 cases sw <;> rfl
theorem faceL_P (x : Nat × Bool) {v : Nat} (hv : v < 4) : (faceL x)[1 + v]? = some (.int .i64 (pm x.2 v)) := by
 match v, hv with
 | 0, _ => rfl
 | 1, _ => rfl
 | 2, _ => rfl
 | 3, _ => rfl
theorem face_at {cs : List Value} {N : Nat} {e : Nat → Nat → Nat × Bool} (h : FacesC cs N fun t f => some (e t f)) {t f : Nat} (ht : t < N) (hf : f < 4) : (cs.drop (t * 20 + f * 5)).take 5 = faceL (e t f) ∧ t * 20 + f * 5 + 5 ≤ cs.length ∧ cs[t * 20 + f * 5]? = some (.int .i64 (e t f).1) := by
 refine ⟨by rw [h.face ht hf, faceL_eq], by have := h.1; omega, ?_⟩
 have := h.2 t f ht hf 0 (by omega)
 rw [faceL_eq] at this
 exact this
theorem face_key (x : Nat × Bool) : keyCells [some .i64, some .i64, some .i64, some .i64, some .i64] true (.agg (faceL x).toArray) = some (faceL x) := rfl
theorem face_same (x : Nat × Bool) : eqCells (faceL x) (faceL x) = true := by simp [faceL, eqCells, eqCell]
variable {E : Env} (hE : OE E)
include hE
theorem checkG_ {h : List O} {a : Option Addr} {N c : Nat} {e : Nat → Nat → Nat × Bool} (hg : GluP h a N e) (hU : GlU N e) :
  DR E 27 [.agg #[.slice a N c]] ⟨h, h.length⟩ (.ret (.int .i64 0)) ⟨h, h.length⟩ := by
 refine hE.fn (body := rb27) rfl ?_
 unfold rb27
 obtain ⟨hN0, hN, bb, cs, el, own, rfl, hbb, hF⟩ := hg
 obtain ⟨hB, hhB⟩ : ∃ H, H = h ++ [O.cells [.slice (some ⟨bb, 0, none⟩) N c] 29 (some 0)] := ⟨_, rfl⟩
 have hBs : Sub h hB := by rw [hhB]; exact (Sub.refl _).app _
 have b0 : hB[h.length]? = some (O.cells [.slice (some ⟨bb, 0, none⟩) N c] 29 (some 0)) := by rw [hhB, app_at0]; rfl
 have b1 := hBs _ _ hbb
 have e1 : ¬ (1000 < (N : Int)) := by omega
 simp [List.append_assoc, rd_at0, ↓← hhB, rd_def, ↓b0, e1]
 refine DW_loop (fun kk fr st => ∃ (t : Nat) (h' : List O), t + kk = N ∧ st = ⟨h', h.length⟩ ∧ Sub hB h' ∧
  get fr 1 = .pointer (some ⟨h.length, 0, none⟩) ∧ get fr 3 = .int .i64 N ∧ get fr 4 = .int .i64 t) ?_ (k := N) ?_
 ·rintro kk fr st ⟨t, h', htk, rfl, hs, g1, g3, g4⟩
  by_cases ht : t < N
  ·have ht' : (t : Int) < N := by omega
   have hw : IntKind.i64.wrap ((t : Int) + 1) = (t : Int) + 1 := by rw [w64_id] <;> omega
   simp [g1, g3, g4, ht', ht]
   refine DW_loop (fun kk' fr st => ∃ (f : Nat) (h' : List O), f + kk' = 4 ∧ st = ⟨h', h.length⟩ ∧ Sub hB h' ∧
    get fr 1 = .pointer (some ⟨h.length, 0, none⟩) ∧ get fr 3 = .int .i64 N ∧ get fr 4 = .int .i64 t ∧ get fr 5 = .int .i64 f) ?_ (k := 4) ?_
   ·clear g1 g3 g4 hs
    clear h'
    rintro kk' fr st ⟨f, h', hfk, rfl, hs, g1, g3, g4, g5⟩
    by_cases hf : f < 4
    ·have hf' : (f : Int) < 4 := by omega
     have hwf : IntKind.i64.wrap ((f : Int) + 1) = (f : Int) + 1 := by rw [w64_id] <;> omega
     have hb0 := hs _ _ b0
     have hb1 := hs _ _ b1
     obtain ⟨x, hx⟩ : ∃ x, x = e t f := ⟨_, rfl⟩
     obtain ⟨f1, f2, f3⟩ := face_at hF ht hf
     rw [← hx] at f1
     have hx1 := hU.lt t f ht hf
     have hx2 := hU.sym t f ht hf
     have hx3 := hU.self t f ht hf
     rw [← hx] at hx1 hx2 hx3
     have hpf := pm_lt x.2 hf
     obtain ⟨y1, y2, y3⟩ := face_at hF hx1 hpf
     rw [hx2] at y1
     obtain ⟨H1, hH1⟩ : ∃ H, H = h' ++ [O.cells (faceL x) 99 (some 0)] := ⟨_, rfl⟩
     have hs1 : Sub h' H1 := by rw [hH1]; exact (Sub.refl _).app _
     have c1 : H1[h'.length]? = some (O.cells (faceL x) 99 (some 0)) := by rw [hH1, app_at0]; rfl
     have hb0' := hs1 _ _ hb0
     have hb1' := hs1 _ _ hb1
     have hv := validR_ hE (h := H1) (p := pm x.2) ⟨fun a ha => pm_lt _ ha, fun a b _ _ e => by rw [← pm_pm x.2 a, e, pm_pm]⟩
     have hi := inverseR_ hE (h := H1) x.2
     have hP := faceL_P x hf
     have hj : joined ⟨H1, h.length⟩ ⟨H1, H1.length⟩ = ⟨H1, h.length⟩ := joined_mk _ _
     simp only [permW, permV] at hv hi
     simp only [faceL] at f1 y1 hH1 c1 hP
     have n1 : ¬ ((x.1 : Nat) : Int) = -1 := by omega
     have n2 : ¬ ((x.1 : Nat) : Int) < 0 := by omega
     have n3 : ¬ ((N : Nat) : Int) ≤ (x.1 : Nat) := by omega
     have n4 : ((pm x.2 f : Nat) : Int) < 4 := by omega
     have hmin : min h.length h'.length = h.length := by have := hBs.len; have := hs.len; omega
     have hk := face_key (t, x.2)
     have hs2 := face_same (t, x.2)
     simp only [faceL] at hk hs2
     by_cases hxt : x.1 = t
     ·have hxf : ¬ pm x.2 f = f := fun hh => hx3 ⟨hxt, hh⟩
      simp [g1, g3, g4, g5, hf', rd_def, ↓hb0, ↓hb1, rdN_def, ht, ht', f1, f2, wrN_at0, set_at0, ↓← hH1, ↓c1, n1, n2, n3, DC_of hv, DC_of hi, hj, hP, eq_true hxt, hxf, hmin, ↓hb0', ↓hb1', y1, y2, y3, hx1, n4, hk, hs2, hwf]
      exact ⟨kk' - 1, by omega, f + 1, by omega, hs.trans hs1, by omega⟩
     ·simp [g1, g3, g4, g5, hf', rd_def, ↓hb0, ↓hb1, rdN_def, ht, ht', f1, f2, wrN_at0, set_at0, ↓← hH1, ↓c1, n1, n2, n3, DC_of hv, DC_of hi, hj, hP, hxt, hmin, ↓hb0', ↓hb1', y1, y2, y3, hx1, n4, hk, hs2, hwf]
      exact ⟨kk' - 1, by omega, f + 1, by omega, hs.trans hs1, by omega⟩
    ·simp [g1, g3, g4, g5, show ¬ ((f : Int) < 4) by omega, hw]
     exact ⟨kk - 1, by omega, t + 1, by omega, hs, by omega⟩
   ·exact ⟨0, h', by omega, rfl, hs, by simp [g1, g3, g4]⟩
  ·simp [g1, g3, g4, show ¬ ((t : Int) < N) by omega]
 ·exact ⟨0, hB, by omega, rfl, Sub.refl _, by simp⟩
end Go.Proofs.Ytjlkndkedknocaa
namespace Go.Proofs.Ytjlkndkedknocaa
open Go Go.Ai
attribute [local instance] Classical.propDecidable
variable {E : Env} (hE : OE E)
include hE
theorem vertexClasses_ {h0 : List O} {fb : Nat} {cs : List Value} {s0 : Option Nat} {G : Dg} (hG : GoodG G) (hfb : h0[fb]? = some (.cells cs 100 s0)) (hF : FacesC cs (4 * G.n) (outF G)) (hn : 0 < G.n) :
  DC E 89 [.agg #[.slice (some ⟨fb, 0, none⟩) (4 * G.n) (4 * G.n)]] ⟨h0, h0.length⟩ fun o st' => ∃ (b : Nat) (cls ys : List Int) (cnt : Nat), o = .ret (.slice (some ⟨b, 0, none⟩) (16 * G.n) (16 * G.n)) ∧ h0.length ≤ b ∧ h0.length ≤ st'.fl ∧ Sub h0 st'.h ∧ AtB st'.h b (.cells (intsC ys) 3 (some 0)) ∧
   NumI cls ys (16 * G.n) (16 * G.n) cnt ∧ cnt ≤ 16 * G.n ∧ ∀ a b, a < 16 * G.n → b < 16 * G.n → (nth cls a = nth cls b ↔ VC (nbF (outF G)) a b) := by
 refine hE.fnC (body := rb89) rfl ?_
 unfold rb89
 have hsz := hG.size
 obtain ⟨M, hM⟩ : ∃ M, M = 4 * G.n := ⟨_, rfl⟩
 obtain ⟨N, hN⟩ : ∃ N, N = 16 * G.n := ⟨_, rfl⟩
 rw [← hM] at hF
 rw [← hM, ← hN]
 obtain ⟨hB, hhB⟩ : ∃ H, H = h0 ++ [O.cells [.slice (some ⟨fb, 0, none⟩) M M] 29 (some 0)] := ⟨_, rfl⟩
 have lB : hB.length = h0.length + 1 := by rw [hhB]; simp
 have sB : Sub h0 hB := by rw [hhB]; exact (Sub.refl _).app _
 have bB : hB[h0.length]? = some (O.cells [.slice (some ⟨fb, 0, none⟩) M M] 29 (some 0)) := by rw [hhB, app_at0]; rfl
 have fB := sB _ _ hfb
 have w1 : IntKind.i64.wrap (4 * (M : Int)) = N := by rw [w64_id] <;> omega
 have hst := start_ hE (h0 := hB) (N := N) (by omega)
 simp [rd_at0, w1]
 rw [← hhB, ← lB]
 refine hst.imp ?_
 rintro o ⟨h1, f1⟩ ⟨cls0, rfl, hf1, hs1, hat1, hl1, hc1⟩
 simp only at hf1 hs1 hat1
 obtain ⟨m, hm⟩ : ∃ m, m = hB.length := ⟨_, rfl⟩
 rw [← hm] at hat1 hf1 lB ⊢
 have hCl0 : ClI G 0 cls0 := ⟨by omega, fun a b ha hb e => by
  rw [hc1 a (by omega), hc1 b (by omega)] at e
  rw [show a = b by omega]
  exact .refl _, fun t f v w _ _ _ h => by omega⟩
 have hjo1 : joined ⟨hB, h0.length⟩ ⟨h1, f1⟩ = ⟨h1, h0.length⟩ := joined_fl (by simp only; omega)
 simp [hjo1]
 refine DW_loop (fun kk fr st => ∃ (t : Nat) (h : List O) (cls : List Int), t + kk = M ∧ st = ⟨h, h0.length⟩ ∧ Sub hB h ∧ AtB h m (.cells (intsC cls) 3 (some 0)) ∧ ClI G (t * 16) cls ∧ get fr 1 = .pointer (some ⟨h0.length, 0, none⟩) ∧ get fr 3 = .slice (some ⟨m, 0, none⟩) N N ∧ get fr 4 = .int .i64 t) ?_ (k := M) ?_
 ·rintro kk fr st ⟨t, h, cls, htk, rfl, hsub, hat, hCl, g1, g3, g4⟩
  have hb := hsub _ _ bB
  by_cases ht : t < M
  ·simp [g1, g3, g4, rd_def, hb, ht]
   refine DW_loop (fun kk' fr st => ∃ (f : Nat) (h : List O) (cls : List Int), f + kk' = 4 ∧ st = ⟨h, h0.length⟩ ∧ Sub hB h ∧ AtB h m (.cells (intsC cls) 3 (some 0)) ∧ ClI G ((t * 4 + f) * 4) cls ∧ get fr 1 = .pointer (some ⟨h0.length, 0, none⟩) ∧ get fr 3 = .slice (some ⟨m, 0, none⟩) N N ∧ get fr 4 = .int .i64 t ∧ get fr 5 = .int .i64 f) ?_ (k := 4) ?_
   ·clear g1 g3 g4 hsub hat hCl hb
    clear h cls
    rintro kk' fr st ⟨f, h, cls, hfk, rfl, hsub, hat, hCl, g1, g3, g4, g5⟩
    have hb := hsub _ _ bB
    have hfbh := hsub _ _ fB
    have hwt : IntKind.i64.wrap ((t : Int) + 1) = (t : Int) + 1 := by rw [w64_id] <;> omega
    have hwf : IntKind.i64.wrap ((f : Int) + 1) = (f : Int) + 1 := by rw [w64_id] <;> omega
    by_cases hf : f < 4
    ·have hf' : (f : Int) < 4 := by omega
     have hface := hF.face ht hf
     have hcl := hF.1
     have hb5 : t * 20 + f * 5 + 5 ≤ cs.length := by omega
     obtain ⟨x, hx⟩ : ∃ x, x = outF G t f := ⟨_, rfl⟩
     rw [← hx] at hface
     have hPv : ∀ v, v < 4 → [Value.int .i64 (fcT x), .int .i64 (fcP x 0), .int .i64 (fcP x 1), .int .i64 (fcP x 2), .int .i64 (fcP x 3)][1 + v]? = some (.int .i64 (fcP x v)) := fun v hv => by rw [← fcC_eq]; exact fcC_getP x hv
     rw [fcC_eq] at hface
     obtain ⟨h2, hh2⟩ : ∃ H, H = h ++ [O.cells [Value.int .i64 (fcT x), .int .i64 (fcP x 0), .int .i64 (fcP x 1), .int .i64 (fcP x 2), .int .i64 (fcP x 3)] 99 (some 0)] := ⟨_, rfl⟩
     have s2 : Sub h h2 := by rw [hh2]; exact (Sub.refl _).app _
     have b2 : h2[h.length]? = some (O.cells [Value.int .i64 (fcT x), .int .i64 (fcP x 0), .int .i64 (fcP x 1), .int .i64 (fcP x 2), .int .i64 (fcP x 3)] 99 (some 0)) := by rw [hh2, app_at0]; rfl
     have hsl := hsub.len
     have hmin : min h0.length h.length = h0.length := by omega
     have lmh := (List.getElem?_eq_some_iff.1 hat).1
     have hxlt : fcT x < M := by rw [hx, hM]; exact outF_lt hG hn t f
     simp [g1, g3, g4, g5, hf', rd_def, rdN_def, hb, ht, hfbh, hb5, hface, wrN_at0, set_at0, hmin]
     rw [← hh2]
     refine DW_loop (fun kk2 fr st => ∃ (v : Nat) (h3 : List O) (cls : List Int), v + kk2 = 4 ∧ st = ⟨h3, h0.length⟩ ∧ (h3.length = h2.length ∧ ∀ (b : Nat) (o : O), h2[b]? = some o → b ≠ m → h3[b]? = some o) ∧ AtB h3 m (.cells (intsC cls) 3 (some 0)) ∧ ClI G ((t * 4 + f) * 4 + v) cls ∧ get fr 1 = .pointer (some ⟨h0.length, 0, none⟩) ∧ get fr 3 = .slice (some ⟨m, 0, none⟩) N N ∧ get fr 4 = .int .i64 t ∧ get fr 5 = .int .i64 f ∧ get fr 6 = .pointer (some ⟨h.length, 0, none⟩) ∧ get fr 7 = .int .i64 v) ?_ (k := 4) ?_
     ·clear g1 g3 g4 g5 hCl hat
      clear cls
      rintro kk2 fr st ⟨v, h3, cls, hvk, rfl, ⟨hl3, hk3⟩, hat, hCl, g1, g3, g4, g5, g6, g7⟩
      have hat' := hat
      unfold AtB at hat'
      have b3 := hk3 _ _ b2 (by omega)
      have hwv : IntKind.i64.wrap ((v : Int) + 1) = (v : Int) + 1 := by rw [w64_id] <;> omega
      by_cases hv : v < 4
      ·have hv' : (v : Int) < 4 := by omega
       by_cases hvf : v = f
       ·have hno : nbF (outF G) (4 * t + v) f = none := by
         unfold nbF
         rw [if_pos (by omega)]
        subst hvf
        simp [g1, g3, g4, g5, g6, g7, hv', rd_def, b3, hwv]
        exact ⟨kk2 - 1, by omega, v + 1, by omega, ⟨hl3, hk3⟩, cls, hat, hCl.skip hv hv hno, by omega⟩
       ·have hvf' : ¬ (v : Int) = f := by omega
        obtain ⟨u, hu⟩ : ∃ u, u = 4 * t + v := ⟨_, rfl⟩
        obtain ⟨w, hw⟩ : ∃ w, w = 4 * fcT x + fcP x v := ⟨_, rfl⟩
        have hPlt := fcP_lt x hv
        have hnw : nbF (outF G) (4 * t + v) f = some w := by
         unfold nbF
         rw [if_neg (by omega), show (4 * t + v) / 4 = t by omega, show (4 * t + v) % 4 = v by omega, ← hx, hw]
         congr 1; omega
        have w1' : IntKind.i64.wrap (4 * (t : Int)) = 4 * (t : Int) := by rw [w64_id] <;> omega
        have w2' : IntKind.i64.wrap (4 * (t : Int) + v) = u := by rw [w64_id] <;> omega
        have w3' : IntKind.i64.wrap (4 * (fcT x : Int)) = 4 * (fcT x : Int) := by rw [w64_id] <;> omega
        have w4' : IntKind.i64.wrap (4 * (fcT x : Int) + fcP x v) = w := by rw [w64_id] <;> omega
        have hpv := hPv v hv
        have hmg := merged_ hE (N := N) (u := u) (w := w) hat' (by rw [hCl.len, hN]) (by omega) (by omega) (by omega)
        simp [g1, g3, g4, g5, g6, g7, hv', hvf, hvf', rd_def, b3, hwv, hpv, w1', w2', w3', w4']
        refine hmg.imp ?_
        rintro o ⟨h4, f4⟩ ⟨cls', rfl, hf4, hl4, hk4, hat4, hlen4, hc4⟩
        simp only at hf4 hl4 hk4 hat4
        have hjo : joined ⟨h3, h0.length⟩ ⟨h4, f4⟩ = ⟨h4, h0.length⟩ := by
         simp only [joined]
         split
         ·congr 1; omega
         ·rfl
        simp [hjo, g1, g4, g5, g6, g7, hwv]
        refine ⟨⟨fun h => absurd h (by decide), fun h => absurd h (by decide)⟩, kk2 - 1, by omega, v + 1, by omega, ⟨by omega, fun b o hb hn => hk4 _ _ (hk3 _ _ hb hn) hn⟩, cls', hat4, hCl.merge hG (by omega) hf hv hnw (by omega) (fun a ha => ?_), by omega⟩
        rw [← hu]
        exact hc4 a (by omega)
      ·have hv4 : v = 4 := by omega
       subst hv4
       simp [g1, g3, g4, g5, g6, g7, hwf]
       refine ⟨kk' - 1, by omega, f + 1, by omega, fun b o hb => hk3 b o (s2 b o (hsub b o hb)) ?_, cls, hat, by rw [show (t * 4 + (f + 1)) * 4 = (t * 4 + f) * 4 + 4 by omega]; exact hCl, by omega⟩
       have := (List.getElem?_eq_some_iff.1 hb).1
       omega
     ·exact ⟨0, h2, cls, by omega, rfl, ⟨rfl, fun b o hb _ => hb⟩, s2 _ _ hat, hCl, by simp [g1, g3, g4, g5]⟩
    ·have hf4 : f = 4 := by omega
     subst hf4
     simp [g1, g3, g4, g5, hwt]
     exact ⟨kk - 1, by omega, t + 1, by omega, hsub, cls, hat, by rw [show (t + 1) * 16 = (t * 4 + 4) * 4 by omega]; exact hCl, by omega⟩
   ·exact ⟨0, h, cls, by omega, rfl, hsub, hat, by rw [show (t * 4 + 0) * 4 = t * 16 by omega]; exact hCl, by simp [g1, g3, g4]⟩
  ·have htM : t * 16 = 64 * G.n := by omega
   rw [htM] at hCl
   have hnum := numbered_ hE hat (N := N) (by rw [hCl.len, hN]) (by omega)
   simp [g1, g3, g4, rd_def, hb, ht]
   refine hnum.imp ?_
   rintro o ⟨h3, f3⟩ ⟨ys, cnt, rfl, hf3, hs3, hat3, hI, hcnt⟩
   simp only at hf3 hs3 hat3
   have hsl := hsub.len
   simp [joined_fl, hf3, endK_ret]
   unfold pairQ back
   rw [if_neg (by simp [Out.scalar, scalar, flat1, flat])]
   exact ⟨h.length, rfl, by omega, Nat.le_refl _, sB.trans (hsub.trans hs3), cls, ys, hat3, cnt, hI, hcnt, fun a b ha hb' => hCl.fin hG (by omega) (by omega)⟩
 ·exact ⟨0, h1, cls0, by omega, rfl, hs1, hat1, hCl0, by simp⟩
end Go.Proofs.Ytjlkndkedknocaa
namespace Go.Proofs.Ytjlkndkedknocaa
open Go Go.Ai
attribute [local instance] Classical.propDecidable
theorem OrbI.same {N k k' : Nat} {f : Nat → Nat} {xs xs' : List Int} (h : OrbI N f N k xs) (h' : OrbI N f N k' xs') : xs = xs' := by
 have hu := (h.numb.unique h'.numb).1
 refine List.ext_getElem? fun j => ?_
 have l1 := h.len
 have l2 := h'.len
 by_cases hj : j < N
 ·have e := hu j hj
  have d1 := h.done j hj
  have d2 := h'.done j hj
  have : nth xs j = nth xs' j := by omega
  rw [List.getElem?_eq_getElem (by omega), List.getElem?_eq_getElem (by omega)]
  simp [nth, show j < xs.length by omega, show j < xs'.length by omega] at this
  rw [this]
 ·rw [List.getElem?_eq_none (by omega), List.getElem?_eq_none (by omega)]
structure OsI (G : Dg) (xs ys : List Int) (cnt J : Nat) (os : List Int) : Prop where
 len : os.length = cnt
 val : ∀ u, u < J → nth os (nth ys u).toNat = cuspV G xs u
theorem OsI.step {G : Dg} (hG : GoodG G) {xs cls ys os : List Int} {k cnt J : Nat} (hO : OrbI (2 * G.n) (nx G) (2 * G.n) k xs) (hI : NumI cls ys (16 * G.n) (16 * G.n) cnt) (hV : ∀ a b, a < 16 * G.n → b < 16 * G.n → (nth cls a = nth cls b ↔ VC (nbF (outF G)) a b))
  (h : OsI G xs ys cnt J os) (hJ : J < 16 * G.n) {v : Int} (hv : v = cuspV G xs J) : OsI G xs ys cnt (J + 1) (os.set (nth ys J).toNat v) := by
 have hb := hI.val J hJ
 refine ⟨by simp [h.len], fun u hu => ?_⟩
 rw [nth_set (by rw [h.len]; omega)]
 by_cases e : (nth ys u).toNat = (nth ys J).toNat
 ·rw [if_pos e, hv]
  have hub := hI.val u (by omega)
  have h1 : nth ys u = nth ys J := by omega
  have h2 := (hV u J (by omega) hJ).1 ((hI.rel u J (by omega) hJ).1 h1)
  exact cusp_same hG hO (by omega) h2
 ·rw [if_neg e]
  by_cases e2 : u = J
  ·rw [e2] at e; exact absurd rfl e
  ·exact h.val u (by omega)
variable {E : Env} (hE : OE E)
include hE
end Go.Proofs.Ytjlkndkedknocaa
namespace Go.Proofs.Ytjlkndkedknocaa
open Go Go.Ai
attribute [local instance] Classical.propDecidable
def LisP (h : List O) (a : Option Addr) (N : Nat) (xs : List Int) : Prop := xs.length = N ∧ (0 < N → ∃ b el own, a = some ⟨b, 0, none⟩ ∧ h[b]? = some (.cells (intsC xs) el own))
theorem LisP.sub {h h' : List O} {a : Option Addr} {N : Nat} {xs : List Int} (k : LisP h a N xs) (hs : Sub h h') : LisP h' a N xs :=
 ⟨k.1, fun h0 => by obtain ⟨b, el, own, h1, h2⟩ := k.2 h0; exact ⟨b, el, own, h1, hs _ _ h2⟩⟩
def RowP (h : List O) (a : Option Addr) (M : Nat) (F : Nat → Nat → Option (Nat × Bool)) : Prop := 0 < M → ∃ b cs el own, a = some ⟨b, 0, none⟩ ∧ h[b]? = some (.cells cs el own) ∧ FacesC cs M F
theorem RowP.sub {h h' : List O} {a : Option Addr} {M : Nat} {F : Nat → Nat → Option (Nat × Bool)} (k : RowP h a M F) (hs : Sub h h') : RowP h' a M F := fun h0 => by
 obtain ⟨b, cs, el, own, h1, h2, h3⟩ := k h0
 exact ⟨b, cs, el, own, h1, hs _ _ h2, h3⟩
variable {E : Env} (hE : OE E)
include hE
end Go.Proofs.Ytjlkndkedknocaa
namespace Go.Proofs.Ytjlkndkedknocaa
open Go Go.Ai
attribute [local instance] Classical.propDecidable
structure LkR (N : Nat) (χ : Nat → Nat) (xs : List Int) : Prop where
 len : xs.length = 7 * N
 one : ∀ u, u < 4 * N → χ u ≤ 1
 tri : ∀ t i, t < N → i < 4 → nth xs (7 * t + i) = χ (4 * t + i)
 quad : ∀ t k, t < N → k < 3 → nth xs (7 * t + 4 + k) = 0
def arcS (χ : Nat → Nat) (t f : Nat) : Nat → Nat
 | 0 => 0
 | i + 1 => arcS χ t f i + if i = f then 0 else χ (4 * t + i)
theorem arcS_le {χ : Nat → Nat} {N t f : Nat} (h : ∀ u, u < 4 * N → χ u ≤ 1) (ht : t < N) : ∀ i, i ≤ 4 → arcS χ t f i ≤ i := by
 intro i
 induction i with
 | zero => intro _; exact Nat.le_refl _
 | succ i ih =>
  intro hi
  have h1 := ih (by omega)
  have h2 := h (4 * t + i) (by omega)
  show arcS χ t f i + (if i = f then 0 else χ (4 * t + i)) ≤ i + 1
  split <;> omega
def dotS (xs ys : List Int) : Nat → Int
 | 0 => 0
 | j + 1 => dotS xs ys j + nth xs j * nth ys j
theorem dotS_le {xs ys : List Int} (hx : ∀ j, -4 ≤ nth xs j ∧ nth xs j ≤ 4) (hy : ∀ j, 0 ≤ nth ys j ∧ nth ys j ≤ 1) : ∀ j : Nat, -(4 * (j : Int)) ≤ dotS xs ys j ∧ dotS xs ys j ≤ 4 * j := by
 intro j
 induction j with
 | zero => simp [dotS]
 | succ j ih =>
  have h1 := hx j
  have h2 := hy j
  show -(4 * ((j + 1 : Nat) : Int)) ≤ dotS xs ys j + nth xs j * nth ys j ∧ dotS xs ys j + nth xs j * nth ys j ≤ 4 * ((j + 1 : Nat) : Int)
  rcases (show nth ys j = 0 ∨ nth ys j = 1 by omega) with e | e <;> rw [e] <;> omega
variable {E : Env} (hE : OE E)
include hE
theorem type1_ {h : List O} {i j : Nat} (hi : i < 4) (hj : j < 4) (hij : i < j) : DR E 165 [.int .i64 i, .int .i64 j] ⟨h, h.length⟩ (.ret (.int .i64 (tyN i j))) ⟨h, h.length⟩ := by
 refine hE.fn (body := rb165) rfl ?_
 unfold rb165
 have hc : ¬ (j : Int) < i := by omega
 have hm1 : min i j = i := by omega
 have hm2 : max i j = j := by omega
 by_cases h0 : i = 0
 ·have ht : tyN i j = j - 1 := by unfold tyN; rw [hm1, hm2, if_pos h0]
  have hw : IntKind.i64.wrap ((j : Int) - 1) = ((j - 1 : Nat) : Int) := by rw [w64_id] <;> omega
  rw [ht]
  subst h0
  simp [hw, show ¬ (j : Int) < 0 by omega]
 ·have ht : tyN i j = 5 - i - j := by unfold tyN; rw [hm1, if_neg h0]
  have hw1 : IntKind.i64.wrap (5 - (i : Int)) = 5 - (i : Int) := by rw [w64_id] <;> omega
  have hw : IntKind.i64.wrap (5 - (i : Int) - j) = ((5 - i - j : Nat) : Int) := by rw [w64_id] <;> omega
  rw [ht]
  simp [hw1, hw, hc, h0, show ¬ j < i by omega]
theorem type6_ {h : List O} {i j : Nat} (hi : i < 4) (hj : j < 4) (hij : i ≠ j) : DR E 165 [.int .i64 i, .int .i64 j] ⟨h, h.length⟩ (.ret (.int .i64 (tyN i j))) ⟨h, h.length⟩ := by
 rcases Nat.lt_or_ge i j with hlt | hge
 ·exact type1_ hE hi hj hlt
 ·refine hE.fn (body := rb165) rfl ?_
  unfold rb165
  have hc : (j : Int) < i := by omega
  have hty := type1_ hE (h := h) hj hi (by omega)
  have hs : tyN i j = tyN j i := by unfold tyN; rw [Nat.min_comm i j, Nat.max_comm i j]; split <;> omega
  rw [hs]
  simp [show j < i by omega, DC_of hty, joined_mk]
omit hE in
theorem ty_lt : ∀ i, i < 4 → ∀ j, j < 4 → i ≠ j → tyN i j < 3 := by decide
omit hE in
theorem lis_get {h : List O} {a : Option Addr} {M : Nat} {xs : List Int} (hl : LisP h a M xs) {j : Nat} (hj : j < M) : ∃ b el own, a = some ⟨b, 0, none⟩ ∧ h[b]? = some (.cells (intsC xs) el own) ∧ j < xs.length := by
 obtain ⟨b, el, own, h1, h2⟩ := hl.2 (by omega)
 exact ⟨b, el, own, h1, h2, by rw [hl.1]; exact hj⟩
theorem weight_ {h : List O} {a : Option Addr} {N c t e : Nat} {χ : Nat → Nat} {xs : List Int} (hl : LisP h a (7 * N) xs) (hx : LkR N χ xs) (ht : t < N) (hN : N ≤ 1000) (he : e < 6) :
  DR E 164 [.slice a (7 * N) c, .int .i64 t, .int .i64 e] ⟨h, h.length⟩ (.ret (.int .i64 (χ (4 * t + edA e) + χ (4 * t + edB e) : Nat))) ⟨h, h.length⟩ := by
 refine hE.fn (body := rb164) rfl ?_
 unfold rb164
 obtain ⟨b, el, own, rfl, hb, _⟩ := lis_get hl (show 0 < 7 * N by omega)
 have hen := ends6_ hE (h := h) he
 obtain ⟨d1, d2, d3⟩ := ed_lt e he
 have hA : edA e < 4 := by omega
 have o1 := hx.one (4 * t + edA e) (by omega)
 have o2 := hx.one (4 * t + edB e) (by omega)
 have t1 := hx.tri t (edA e) ht hA
 have t2 := hx.tri t (edB e) ht d2
 obtain ⟨p, hp⟩ : ∃ p, p = 7 * t + edA e := ⟨_, rfl⟩
 obtain ⟨q, hq⟩ : ∃ q, q = 7 * t + edB e := ⟨_, rfl⟩
 rw [← hp] at t1
 rw [← hq] at t2
 have hlen := hx.len
 have w1 : IntKind.i64.wrap (7 * (t : Int)) = 7 * (t : Int) := by rw [w64_id] <;> omega
 have w2 : IntKind.i64.wrap (7 * (t : Int) + edA e) = (p : Int) := by rw [w64_id] <;> omega
 have w3 : IntKind.i64.wrap (7 * (t : Int) + edB e) = (q : Int) := by rw [w64_id] <;> omega
 have w4 : IntKind.i64.wrap (7 * (t : Int) + 4) = 7 * (t : Int) + 4 := by rw [w64_id] <;> omega
 have i1 : (p : Int) < 7 * N := by omega
 have i2 : (q : Int) < 7 * N := by omega
 have g1 : p < xs.length := by omega
 have g2 : q < xs.length := by omega
 obtain ⟨S, hS⟩ : ∃ S, S = χ (4 * t + edA e) + χ (4 * t + edB e) := ⟨_, rfl⟩
 have w5 : IntKind.i64.wrap ((χ (4 * t + edA e) : Int) + χ (4 * t + edB e)) = (S : Int) := by rw [w64_id] <;> omega
 rw [← hS]
 have hj : joined ⟨h, h.length⟩ ⟨h, h.length⟩ = ⟨h, h.length⟩ := joined_mk _ _
 have hty := type6_ hE (h := h) hA d2 (by omega)
 simp [DC_of hen, hj, w1, w2, w3, rd_def, hb, i1, i2, intsC_get g1, intsC_get g2, t1, t2, w5, bit]
 refine DW_loop (fun kk fr st => ∃ (k : Nat), k + kk = 3 ∧ st = ⟨h, h.length⟩ ∧ get fr 0 = .slice (some ⟨b, 0, none⟩) (7 * N) c ∧ get fr 1 = .int .i64 t ∧ get fr 7 = .int .i64 (edA e) ∧ get fr 8 = .int .i64 (edB e) ∧ get fr 9 = .int .i64 S ∧ get fr 10 = .int .i64 k) ?_ (k := 3) ?_
 ·rintro kk fr st ⟨k, hkk, rfl, g0, g1, g7, g8, g9, g10⟩
  by_cases hk : k < 3
  ·have hk' : (k : Int) < 3 := by omega
   have hwk : IntKind.i64.wrap ((k : Int) + 1) = (k : Int) + 1 := by rw [w64_id] <;> omega
   have hz := hx.quad t k ht hk
   obtain ⟨r, hr⟩ : ∃ r, r = 7 * t + 4 + k := ⟨_, rfl⟩
   rw [← hr] at hz
   have w6 : IntKind.i64.wrap (7 * (t : Int) + 4 + k) = (r : Int) := by rw [w64_id] <;> omega
   have w7 : IntKind.i64.wrap (S : Int) = S := by rw [w64_id] <;> omega
   have i3 : (r : Int) < 7 * N := by omega
   have g3 : r < xs.length := by omega
   by_cases hkt : k = tyN (edA e) (edB e)
   ·simp [g0, g1, g7, g8, g9, g10, hk', DC_of hty, hj, ← hkt, hwk]
    exact ⟨kk - 1, by omega, k + 1, by omega, by omega⟩
   ·simp [g0, g1, g7, g8, g9, g10, hk', DC_of hty, hj, hkt, w1, w4, w6, rd_def, hb, i3, intsC_get g3, hz, w7, hwk]
    exact ⟨kk - 1, by omega, k + 1, by omega, by omega⟩
  ·simp [g0, g1, g7, g8, g9, g10, show ¬ (k : Int) < 3 by omega]
 ·exact ⟨0, by omega, rfl, by simp⟩
theorem arcs_ {h : List O} {a : Option Addr} {N c t f : Nat} {χ : Nat → Nat} {xs : List Int} (hl : LisP h a (7 * N) xs) (hx : LkR N χ xs) (ht : t < N) (hN : N ≤ 1000) (hf : f < 4) :
  DR E 102 [.slice a (7 * N) c, .int .i64 t, .int .i64 f] ⟨h, h.length⟩ (.ret (.int .i64 (arcS χ t f 4))) ⟨h, h.length⟩ := by
 refine hE.fn (body := rb102) rfl ?_
 unfold rb102
 obtain ⟨b, el, own, rfl, hb, _⟩ := lis_get hl (show 0 < 7 * N by omega)
 have hlen := hx.len
 have w1 : IntKind.i64.wrap (7 * (t : Int)) = 7 * (t : Int) := by rw [w64_id] <;> omega
 have w4 : IntKind.i64.wrap (7 * (t : Int) + 4) = 7 * (t : Int) + 4 := by rw [w64_id] <;> omega
 have hj : joined ⟨h, h.length⟩ ⟨h, h.length⟩ = ⟨h, h.length⟩ := joined_mk _ _
 simp
 refine DW_loop (fun kk fr st => ∃ (i : Nat), i + kk = 4 ∧ st = ⟨h, h.length⟩ ∧ get fr 0 = .slice (some ⟨b, 0, none⟩) (7 * N) c ∧ get fr 1 = .int .i64 t ∧ get fr 2 = .int .i64 f ∧ get fr 7 = .int .i64 (arcS χ t f i) ∧ get fr 8 = .int .i64 i) ?_ (k := 4) ?_
 ·rintro kk fr st ⟨i, hik, rfl, g0, g1, g2, g7, g8⟩
  by_cases hi : i < 4
  ·have hi' : (i : Int) < 4 := by omega
   have hwi : IntKind.i64.wrap ((i : Int) + 1) = (i : Int) + 1 := by rw [w64_id] <;> omega
   by_cases hif : i = f
   ·have hs : arcS χ t f (i + 1) = arcS χ t f i := by show _ + (if i = f then 0 else _) = _; rw [if_pos hif]; rfl
    subst hif
    simp [g0, g1, g2, g7, g8, hi', hwi]
    exact ⟨kk - 1, by omega, i + 1, by omega, hs.symm, by omega⟩
   ·have hs : arcS χ t f (i + 1) = arcS χ t f i + χ (4 * t + i) := by show _ + (if i = f then 0 else _) = _; rw [if_neg hif]
    have hle := arcS_le (f := f) hx.one ht i (by omega)
    have h1 := hx.one (4 * t + i) (by omega)
    have ht1 := hx.tri t i ht hi
    have htl := ty_lt i hi f hf hif
    have hq := hx.quad t (tyN i f) ht htl
    have hty := type6_ hE (h := h) hi hf hif
    obtain ⟨p, hp⟩ : ∃ p, p = 7 * t + i := ⟨_, rfl⟩
    obtain ⟨r, hr⟩ : ∃ r, r = 7 * t + 4 + tyN i f := ⟨_, rfl⟩
    rw [← hp] at ht1
    rw [← hr] at hq
    have w2 : IntKind.i64.wrap (7 * (t : Int) + i) = (p : Int) := by rw [w64_id] <;> omega
    have w6 : IntKind.i64.wrap (7 * (t : Int) + 4 + tyN i f) = (r : Int) := by rw [w64_id] <;> omega
    obtain ⟨S, hS⟩ : ∃ S, S = arcS χ t f (i + 1) := ⟨_, rfl⟩
    have w5 : IntKind.i64.wrap ((arcS χ t f i : Int) + χ (4 * t + i)) = (S : Int) := by rw [w64_id] <;> omega
    have w7 : IntKind.i64.wrap (S : Int) = S := by rw [w64_id] <;> omega
    have i1 : (p : Int) < 7 * N := by omega
    have i3 : (r : Int) < 7 * N := by omega
    have g1' : p < xs.length := by omega
    have g3' : r < xs.length := by omega
    simp [g0, g1, g2, g7, g8, hi', hif, w1, w2, w4, rd_def, hb, i1, intsC_get g1', ht1, w5, DC_of hty, hj, w6, i3, intsC_get g3', hq, w7, hwi, bit]
    exact ⟨kk - 1, by omega, i + 1, by omega, hS, by omega⟩
  ·have hi4 : i = 4 := by omega
   subst hi4
   simp [g0, g1, g2, g7, g8]
 ·exact ⟨0, by omega, rfl, by simp [arcS]⟩
theorem dot_ {h : List O} {a a' : Option Addr} {M c c' : Nat} {xs ys : List Int} (h1 : LisP h a M xs) (h2 : LisP h a' M ys) (hM : M ≤ 100000) (hx : ∀ j, -4 ≤ nth xs j ∧ nth xs j ≤ 4) (hy : ∀ j, 0 ≤ nth ys j ∧ nth ys j ≤ 1) :
  DR E 243 [.slice a M c, .slice a' M c'] ⟨h, h.length⟩ (.ret (.int .i64 (dotS xs ys M))) ⟨h, h.length⟩ := by
 refine hE.fn (body := rb243) rfl ?_
 unfold rb243
 simp
 refine DW_loop (fun kk fr st => ∃ (j : Nat), j + kk = M ∧ st = ⟨h, h.length⟩ ∧ get fr 0 = .slice a M c ∧ get fr 1 = .slice a' M c' ∧ get fr 5 = .int .i64 (dotS xs ys j) ∧ get fr 6 = .int .i64 j) ?_ (k := M) ?_
 ·rintro kk fr st ⟨j, hjk, rfl, g0, g1, g5, g6⟩
  by_cases hj : j < M
  ·have hw : IntKind.i64.wrap ((j : Int) + 1) = (j : Int) + 1 := by rw [w64_id] <;> omega
   obtain ⟨b, el, own, rfl, hb, hl1⟩ := lis_get h1 hj
   obtain ⟨b', el', own', rfl, hb', hl2⟩ := lis_get h2 hj
   have hb1 := dotS_le hx hy j
   have hb2 := dotS_le hx hy (j + 1)
   have e1 := hx j
   have e2 := hy j
   have hs : dotS xs ys (j + 1) = dotS xs ys j + nth xs j * nth ys j := rfl
   obtain ⟨D, hD⟩ : ∃ D, D = dotS xs ys (j + 1) := ⟨_, rfl⟩
   rw [← hD] at hb2 hs
   have w1 : IntKind.i64.wrap (nth xs j * nth ys j) = nth xs j * nth ys j := by
    rcases (show nth ys j = 0 ∨ nth ys j = 1 by omega) with e | e <;> rw [e] <;> rw [w64_id] <;> omega
   have w2 : IntKind.i64.wrap (dotS xs ys j + nth xs j * nth ys j) = D := by rw [← hs, w64_id] <;> omega
   simp [g0, g1, g5, g6, hj, rd_def, hb, hb', intsC_get hl1, intsC_get hl2, w1, w2, hw, bit]
   exact ⟨kk - 1, by omega, j + 1, by omega, hD, by omega⟩
  ·have hjM : j = M := by omega
   subst hjM
   simp [g0, g1, g5, g6]
 ·exact ⟨0, by omega, rfl, by simp [dotS]⟩
theorem readyN_ {h : List O} {a : Option Addr} {N c : Nat} {e : Nat → Nat → Nat × Bool} (hg : GluP h a N e) (hU : GlU N e) (hN : N ≤ 60) :
  DR E 95 [.agg #[.slice a N c]] ⟨h, h.length⟩ (.ret (.int .i64 0)) ⟨h, h.length⟩ := by
 refine hE.fn (body := rb95) rfl ?_
 unfold rb95
 obtain ⟨hB, hhB⟩ : ∃ H, H = h ++ [O.cells [.slice a N c] 29 (some 0)] := ⟨_, rfl⟩
 have hBs : Sub h hB := by rw [hhB]; exact (Sub.refl _).app _
 have b0 : hB[h.length]? = some (O.cells [.slice a N c] 29 (some 0)) := by rw [hhB, app_at0]; rfl
 have hck := checkG_ hE (c := c) (hg.sub hBs) hU
 have hj : joined ⟨hB, h.length⟩ ⟨hB, hB.length⟩ = ⟨hB, h.length⟩ := joined_mk _ _
 have e1 : ¬ (60 < (N : Int)) := by omega
 simp [List.append_assoc, rd_at0, ↓← hhB, rd_def, rdN_def, ↓b0, DC_of hck, hj, e1]
end Go.Proofs.Ytjlkndkedknocaa
namespace Go.Proofs.Ytjlkndkedknocaa
open Go Go.Ai
attribute [local instance] Classical.propDecidable
def chiQ (ys : List Int) (q u : Nat) : Nat := if nth ys u = q then 1 else 0
structure LkW (N : Nat) (ys : List Int) (q J : Nat) (xs : List Int) : Prop where
 len : xs.length = 7 * N
 tri : ∀ t i, t < N → i < 4 → nth xs (7 * t + i) = if 4 * t + i < J then chiQ ys q (4 * t + i) else 0
 quad : ∀ t k, t < N → k < 3 → nth xs (7 * t + 4 + k) = 0
theorem LkW.start (N : Nat) (ys : List Int) (q : Nat) : LkW N ys q 0 (List.replicate (7 * N) 0) :=
 ⟨by simp, fun t i ht hi => by rw [if_neg (by omega)]; simp [Ai.nth, show 7 * t + i < 7 * N by omega], fun t k ht hk => by simp [Ai.nth, show 7 * t + 4 + k < 7 * N by omega]⟩
theorem LkW.skip {N : Nat} {ys : List Int} {q J : Nat} {xs : List Int} (h : LkW N ys q J xs) (hn : nth ys J ≠ q) : LkW N ys q (J + 1) xs := by
 refine ⟨h.len, fun t i ht hi => ?_, h.quad⟩
 rw [h.tri t i ht hi]
 by_cases e : 4 * t + i = J
 ·rw [if_neg (by omega), if_pos (by omega), e]
  unfold chiQ
  rw [if_neg hn]
 ·by_cases e2 : 4 * t + i < J
  ·rw [if_pos e2, if_pos (by omega)]
  ·rw [if_neg e2, if_neg (by omega)]
theorem LkW.put {N : Nat} {ys : List Int} {q J : Nat} {xs : List Int} (h : LkW N ys q J xs) (hJ : J < 4 * N) (hn : nth ys J = q) : LkW N ys q (J + 1) (xs.set (7 * (J / 4) + J % 4) 1) := by
 have hp : 7 * (J / 4) + J % 4 < xs.length := by rw [h.len]; omega
 refine ⟨by simp [h.len], fun t i ht hi => ?_, fun t k ht hk => ?_⟩
 ·rw [nth_set hp, h.tri t i ht hi]
  by_cases e : 4 * t + i = J
  ·rw [if_pos (by omega), if_pos (by omega), e]
   unfold chiQ
   rw [if_pos hn]; rfl
  ·rw [if_neg (by omega)]
   by_cases e2 : 4 * t + i < J
   ·rw [if_pos e2, if_pos (by omega)]
   ·rw [if_neg e2, if_neg (by omega)]
 ·rw [nth_set hp, if_neg (by omega)]
  exact h.quad t k ht hk
theorem LkW.fin {N : Nat} {ys : List Int} {q : Nat} {xs : List Int} (h : LkW N ys q (4 * N) xs) : LkR N (chiQ ys q) xs :=
 ⟨h.len, fun u _ => by unfold chiQ; split <;> omega, fun t i ht hi => by rw [h.tri t i ht hi, if_pos (by omega)], h.quad⟩
def RowsL (h : List O) (lo : Nat) (v : Value) (N : Nat) (ys : List Int) (q : Nat) : Prop := ∃ vs : List Value, OwnS h lo v q vs 34 1 ∧ ∀ j, j < q → ∃ rb xs, vs[j]? = some (.slice (some ⟨rb, 0, none⟩) (7 * N) (7 * N)) ∧ h[rb]? = some (.cells (intsC xs) 3 (some 0)) ∧ LkR N (chiQ ys j) xs
variable {E : Env} (hE : OE E)
include hE
set_option maxHeartbeats 1000000 in
theorem links_ {h0 : List O} {fb : Nat} {cs : List Value} {s0 : Option Nat} {G : Dg} {e : Nat → Nat → Nat × Bool} (hG : GoodG G) (hfb : h0[fb]? = some (.cells cs 100 s0)) (hF : FacesC cs (4 * G.n) (outF G)) (hn : 0 < G.n) (hn15 : G.n ≤ 15) (hg : GluP h0 (some ⟨fb, 0, none⟩) (4 * G.n) e) (hU : GlU (4 * G.n) e) :
  DC E 30 [.agg #[.slice (some ⟨fb, 0, none⟩) (4 * G.n) (4 * G.n)]] ⟨h0, h0.length⟩ fun o st' => ∃ (v : Value) (cls ys : List Int) (cnt : Nat), o = .ret (.tuple #[v, .int .i64 0]) ∧ h0.length ≤ st'.fl ∧ Sub h0 st'.h ∧ RowsL st'.h h0.length v (4 * G.n) ys cnt ∧
   NumI cls ys (16 * G.n) (16 * G.n) cnt ∧ cnt ≤ 16 * G.n ∧ ∀ a b, a < 16 * G.n → b < 16 * G.n → (nth cls a = nth cls b ↔ VC (nbF (outF G)) a b) := by
 refine hE.fnC (body := rb30) rfl ?_
 unfold rb30
 obtain ⟨M, hM⟩ : ∃ M, M = 4 * G.n := ⟨_, rfl⟩
 obtain ⟨N, hN⟩ : ∃ N, N = 16 * G.n := ⟨_, rfl⟩
 have hvc := fun H (hs : Sub h0 H) => vertexClasses_ hE hG (hs _ _ hfb) hF hn
 rw [← hM] at hg hU
 simp only [← hM, ← hN] at hvc ⊢
 obtain ⟨hB, hhB⟩ : ∃ H, H = h0 ++ [O.cells [.slice (some ⟨fb, 0, none⟩) M M] 29 (some 0)] := ⟨_, rfl⟩
 have lB : hB.length = h0.length + 1 := by rw [hhB]; simp
 have sB : Sub h0 hB := by rw [hhB]; exact (Sub.refl _).app _
 have bB : hB[h0.length]? = some (O.cells [.slice (some ⟨fb, 0, none⟩) M M] 29 (some 0)) := by rw [hhB, app_at0]; rfl
 have hrd := readyN_ hE (c := M) (hg.sub sB) hU (by omega)
 have hj : joined ⟨hB, h0.length⟩ ⟨hB, hB.length⟩ = ⟨hB, h0.length⟩ := joined_mk _ _
 simp [List.append_assoc, rd_at0, ↓← hhB, rd_def, rdN_def, ↓bB, DC_of hrd, hj]
 refine (hvc hB sB).imp ?_
 rintro o ⟨h1, f1⟩ ⟨b, cls, ys, cnt, rfl, hb, hf1, hs1, hat, hI, hcnt, hcl⟩
 simp only at hf1 hs1 hat
 unfold AtB at hat
 have hj1 : joined ⟨hB, h0.length⟩ ⟨h1, f1⟩ = ⟨h1, h0.length⟩ := by
  simp only [joined]
  split
  ·congr 1; omega
  ·rfl
 have ls1 := hs1.len
 have hb1 := (List.getElem?_eq_some_iff.1 hat).1
 have bB1 := hs1 _ _ bB
 simp [hj1]
 refine DW_loop (fun kk fr st => ∃ (q : Nat) (h : List O) (v : Value), q + kk = cnt ∧ st = ⟨h, h0.length⟩ ∧ Sub h1 h ∧ RowsL h h1.length v M ys q ∧
  get fr 1 = .pointer (some ⟨h0.length, 0, none⟩) ∧ get fr 5 = .slice (some ⟨b, 0, none⟩) N N ∧ get fr 6 = v ∧ get fr 7 = .int .i64 q) ?_ (k := cnt) ?_
 ·rintro kk fr st ⟨q, h, v, hqk, rfl, hs, hR, g1, g5, g6, g7⟩
  have hath := hs _ _ hat
  have hbh := hs _ _ bB1
  have hct := countN_ hE hath hI hcnt (by omega)
  have hjn : joined ⟨h, h0.length⟩ ⟨h, h.length⟩ = ⟨h, h0.length⟩ := joined_mk _ _
  have lsh := hs.len
  by_cases hq : q < cnt
  ·have hq' : (q : Int) < cnt := by omega
   have w1 : IntKind.i64.wrap (7 * (M : Int)) = ((7 * M : Nat) : Int) := by rw [w64_id] <;> omega
   obtain ⟨K, hK⟩ : ∃ K, K = 7 * M := ⟨_, rfl⟩
   rw [← hK] at w1
   have z1 : (K : Int) * 8 ≤ 140737488355328 := by omega
   have z2 : (K : Int) < 4611686018427387904 := by omega
   obtain ⟨h2, hh2⟩ : ∃ H, H = h ++ [O.cells (rep K [Value.int .i64 0]) 3 (some 0)] := ⟨_, rfl⟩
   have s2 : Sub h h2 := by rw [hh2]; exact (Sub.refl _).app _
   have l2 : h2.length = h.length + 1 := by rw [hh2]; simp
   have q2 : h2[h.length]? = some (O.cells (intsC (List.replicate K 0)) 3 (some 0)) := by rw [hh2, app_at0]; simp [rep, intsC]
   simp [g1, g5, g6, g7, DC_of hct, hjn, hq, hq', rd_def, ↓hbh, w1, z1, z2, ↓← hh2]
   obtain ⟨P, hP⟩ : ∃ P, P = h.length := ⟨_, rfl⟩
   rw [← hP] at q2 l2 ⊢
   have hmP : min h0.length P = h0.length := by omega
   refine DW_loop (fun kk2 fr st => ∃ (u : Nat) (h' : List O) (xs : List Int), u + kk2 = N ∧ st = ⟨h', h0.length⟩ ∧ h'.length = h2.length ∧ (∀ (b : Nat) (o : O), h2[b]? = some o → b ≠ P → h'[b]? = some o) ∧ h'[P]? = some (O.cells (intsC xs) 3 (some 0)) ∧ LkW M ys q u xs ∧
    get fr 1 = .pointer (some ⟨h0.length, 0, none⟩) ∧ get fr 5 = .slice (some ⟨b, 0, none⟩) N N ∧ get fr 6 = v ∧ get fr 7 = .int .i64 q ∧ get fr 8 = .slice (some ⟨P, 0, none⟩) K K ∧ get fr 9 = .int .i64 u) ?_ (k := N) ?_
   ·clear g1 g5 g6 g7
    rintro kk2 fr st ⟨u, h', xs, huk, rfl, hl', hk', hat', hL, g1, g5, g6, g7, g8, g9⟩
    have hath' := hk' _ _ (s2 _ _ hath) (by omega)
    by_cases hu : u < N
    ·have hwu : IntKind.i64.wrap ((u : Int) + 1) = (u : Int) + 1 := by rw [w64_id] <;> omega
     have hyl : u < ys.length := by rw [hI.len]; exact hu
     by_cases hyq : nth ys u = q
     ·have hquo : binV .quo (.int .i64 u) (.int .i64 4) = some (.int .i64 ((u / 4 : Nat) : Int)) := by
       rw [binV_quo (by decide), show ((4 : Int)) = ((4 : Nat) : Int) from rfl, ← Int.ofNat_tdiv, w64_id] <;> omega
      have hrem : binV .rem (.int .i64 u) (.int .i64 4) = some (.int .i64 ((u % 4 : Nat) : Int)) := by
       rw [binV_rem (by decide), show ((4 : Int)) = ((4 : Nat) : Int) from rfl, tmod_nat]
      obtain ⟨ud, hud⟩ : ∃ ud, ud = u / 4 := ⟨_, rfl⟩
      obtain ⟨um, hum⟩ : ∃ um, um = u % 4 := ⟨_, rfl⟩
      obtain ⟨r, hr⟩ : ∃ r, r = 7 * ud + um := ⟨_, rfl⟩
      rw [← hud] at hquo
      rw [← hum] at hrem
      have w3 : IntKind.i64.wrap (7 * (ud : Int)) = 7 * (ud : Int) := by rw [w64_id] <;> omega
      have w4 : IntKind.i64.wrap (7 * (ud : Int) + um) = (r : Int) := by rw [w64_id] <;> omega
      have hrK : (r : Int) < K := by omega
      have hrK' : r < K := by omega
      have hxl := hL.len
      have hr1 : r + 1 ≤ xs.length := by omega
      have hL' := hL.put (by omega) hyq
      rw [← hud, ← hum, ← hr] at hL'
      simp [g1, g5, g6, g7, g8, g9, hu, rd_def, ↓hath', intsC_get hyl, hyq, hquo, hrem, w3, w4, hrK, hrK', wrN_def, ↓hat', hr1, intsC_set, hmP, hwu]
      exact ⟨kk2 - 1, by omega, u + 1, by omega, hl', fun b o hb hne => set_ne (hk' b o hb hne) hne, xs.set r 1, set_self hat', hL', by omega⟩
     ·simp [g1, g5, g6, g7, g8, g9, hu, rd_def, ↓hath', intsC_get hyl, hyq, hwu]
      exact ⟨kk2 - 1, by omega, u + 1, by omega, hl', hk', xs, hat', hL.skip hyq, by omega⟩
    ·have huN : u = 4 * M := by omega
     rw [huN] at hL
     have hF2 := hL.fin
     have hwq : IntKind.i64.wrap ((q : Int) + 1) = (q : Int) + 1 := by rw [w64_id] <;> omega
     have s1h' : ∀ (b : Nat) (o : O), h[b]? = some o → h'[b]? = some o := fun b o hb => hk' b o (s2 _ _ hb) (by have := (List.getElem?_eq_some_iff.1 hb).1; omega)
     obtain ⟨vs, hvs, hrow⟩ := hR
     obtain ⟨h3, hh3⟩ : ∃ H, H = h' ++ [O.cells [.slice (some ⟨P, 0, none⟩) K K] 34 (some 0)] := ⟨_, rfl⟩
     have s3 : Sub h' h3 := by rw [hh3]; exact (Sub.refl _).app _
     have l3 : h3.length = h'.length + 1 := by rw [hh3]; simp
     have ho3 : OwnT h3 h1.length v q vs 34 1 := .inr (hvs.keep fun b s _ hb => s3 _ _ (s1h' _ _ hb))
     have hread : readSlice h3 1 1 (some ⟨h'.length, 0, none⟩) = some [.slice (some ⟨P, 0, none⟩) K K] := by rw [hh3]; simp [readSlice, rdN_at0]
     have rm : (q + 1) * 24 ≤ roomMax := by simp only [roomMax]; omega
     obtain ⟨b', h4, f4, hap, hb', hown, hx1, hx2, hL4, K4⟩ := append_T (fl := h0.length) (c := 1) (bytes := 24) ho3 hread rfl rfl (by omega) rm (by omega)
     obtain rfl : f4 = h0.length := by omega
     have hint : ∀ (b : Nat) (ws : List Int), h'[b]? = some (.cells (intsC ws) 3 (some 0)) → h4[b]? = some (.cells (intsC ws) 3 (some 0)) := fun b ws hb => K4 _ _ (s3 _ _ hb) (.inr fun c s he => by
      have := (O.cells.inj he).2.1
      exact absurd this (by decide))
     have hR4 : RowsL h4 h1.length (.slice (some ⟨b', 0, none⟩) (q + 1) (q + 1)) M ys (q + 1) := by
      refine ⟨vs ++ [.slice (some ⟨P, 0, none⟩) K K], ?_, fun j hj => ?_⟩
      ·rcases hown with ⟨he, _⟩ | hown
       ·cases he
       ·exact hown
      ·have hvl : vs.length = q := by have := hvs.1; omega
       by_cases hjq : j < q
       ·obtain ⟨rb, ws, r1, r2, r3⟩ := hrow j hjq
        exact ⟨rb, ws, by rw [List.getElem?_append_left (by omega)]; exact r1, hint _ _ (s1h' _ _ r2), r3⟩
       ·have : j = q := by omega
        subst this
        exact ⟨P, xs, by rw [List.getElem?_append_right (by omega), hvl, Nat.sub_self, hK]; rfl, hint _ _ hat', hF2⟩
     have s14 : Sub h1 h4 := fun b o hb => K4 _ _ (s3 _ _ (s1h' _ _ (hs _ _ hb))) (.inl (List.getElem?_eq_some_iff.1 hb).1)
     have b2 : one1 (.slice (some ⟨P, 0, none⟩) K K) = true := rfl
     have b3 : (Value.slice (some ⟨P, 0, none⟩) K K).cells = #[.slice (some ⟨P, 0, none⟩) K K] := rfl
     simp [g1, g5, g6, g7, g8, g9, hu, b2, b3, ↓← hh3, hap, hwq]
     exact ⟨kk - 1, by omega, q + 1, by omega, s14, _, hR4, rfl, by omega⟩
   ·exact ⟨0, h2, List.replicate K 0, by omega, rfl, rfl, fun b o hb _ => hb, q2, by rw [hK]; exact LkW.start M ys q, by simp [g1, g5, g6, g7]⟩
  ·have hqc : q = cnt := by omega
   subst hqc
   have hq0 : 0 < q := by
    have := hI.val 0 (by omega)
    omega
   obtain ⟨vs, hvs, hrow⟩ := hR
   obtain ⟨vb, vsz, rfl, vlo, vat, vs2⟩ : ∃ b s, v = .slice (some ⟨b, 0, none⟩) q q ∧ h1.length ≤ b ∧ h[b]? = some (.cells vs 34 (some s)) ∧ (s = 0 ∨ s = 1) := by
    rcases hvs.2 with ⟨_, h0⟩ | h0
    ·omega
    ·exact h0
   simp [g1, g5, g6, g7, DC_of hct, hjn]
   unfold pairQ back
   rw [if_neg (by simp [Out.scalar, scalar, flat1, flat])]
   exact ⟨_, rfl, Nat.le_refl _, sB.trans (hs1.trans hs), cls, ys, q, ⟨vs, ⟨hvs.1, .inr ⟨vb, vsz, rfl, by omega, vat, vs2⟩⟩, hrow⟩, hI, hcnt, hcl⟩
 ·exact ⟨0, h1, .slice none 0 0, by omega, rfl, Sub.refl _, ⟨[], OwnS.nil _ _ _ _, fun j hj => by omega⟩, by simp⟩
end Go.Proofs.Ytjlkndkedknocaa
namespace Go.Proofs.Ytjlkndkedknocaa
open Go Go.Ai
attribute [local instance] Classical.propDecidable
def addA (xs : List Int) (p : Nat) (d : Int) : List Int := xs.set p (nth xs p + d)
theorem addA_len (xs : List Int) (p : Nat) (d : Int) : (addA xs p d).length = xs.length := by simp [addA]
theorem addA_nth {xs : List Int} {p : Nat} {d : Int} (hp : p < xs.length) (j : Nat) : nth (addA xs p d) j = if j = p then nth xs p + d else nth xs j := by unfold addA; exact nth_set hp
theorem addA_small {xs : List Int} {b : Int} {p : Nat} {d : Int} (hp : p < xs.length) (h : ∀ j, -b ≤ nth xs j ∧ nth xs j ≤ b) (hd : d = 1 ∨ d = -1) : ∀ j, -(b + 1) ≤ nth (addA xs p d) j ∧ nth (addA xs p d) j ≤ b + 1 := fun j => by
 rw [addA_nth hp]
 have h1 := h j
 have h2 := h p
 split <;> omega
theorem dotS_addA {xs ys : List Int} {p : Nat} {d : Int} (hp : p < xs.length) : ∀ K, dotS (addA xs p d) ys K = dotS xs ys K + if p < K then d * nth ys p else 0 := by
 intro K
 induction K with
 | zero => simp [dotS]
 | succ K ih =>
  show dotS (addA xs p d) ys K + nth (addA xs p d) K * nth ys K = dotS xs ys K + nth xs K * nth ys K + _
  rw [ih, addA_nth hp]
  by_cases e : K = p
  ·subst e
   rw [if_pos rfl, if_neg (by omega), if_pos (by omega), Int.add_mul]
   omega
  ·rw [if_neg e]
   by_cases e2 : p < K
   ·rw [if_pos e2, if_pos (by omega)]; omega
   ·rw [if_neg e2, if_neg (by omega)]; omega
theorem dotS_zero (K M : Nat) (ys : List Int) : dotS (List.replicate M 0) ys K = 0 := by
 induction K with
 | zero => rfl
 | succ K ih =>
  show dotS _ ys K + nth (List.replicate M 0) K * nth ys K = 0
  have : nth (List.replicate M 0) K = 0 := by by_cases h : K < M <;> simp [Ai.nth, h]
  rw [ih, this]; simp
def ClsInv (N : Nat) (e : Nat → Nat → Nat × Bool) (χ : Nat → Nat) : Prop := ∀ t f i, t < N → f < 4 → i < 4 → i ≠ f → χ (4 * t + i) = χ (4 * (e t f).1 + pm (e t f).2 i)
structure EqR (N : Nat) (e : Nat → Nat → Nat × Bool) (row : List Int) : Prop where
 len : row.length = 7 * N
 small : ∀ j, -4 ≤ nth row j ∧ nth row j ≤ 4
 dot : ∀ χ xs, LkR N χ xs → ClsInv N e χ → dotS row xs (7 * N) = 0
def eqRow (N : Nat) (p1 p2 p3 p4 : Nat) : List Int := addA (addA (addA (addA (List.replicate (7 * N) 0) p1 1) p2 1) p3 (-1)) p4 (-1)
theorem eqRow_ok {N : Nat} {e : Nat → Nat → Nat × Bool} (hU : GlU N e) {t f i : Nat} (ht : t < N) (hf : f < 4) (hi : i < 4) (hif : i ≠ f) :
  EqR N e (eqRow N (7 * t + i) (7 * t + 4 + tyN i f) (7 * (e t f).1 + pm (e t f).2 i) (7 * (e t f).1 + 4 + tyN (pm (e t f).2 i) (pm (e t f).2 f))) := by
 obtain ⟨x, hx⟩ : ∃ x, x = e t f := ⟨_, rfl⟩
 have hxN := hU.lt t f ht hf
 rw [← hx] at hxN ⊢
 have hpi := pm_lt x.2 hi
 have hpf := pm_lt x.2 hf
 have hpn : pm x.2 i ≠ pm x.2 f := fun h => hif (by have := congrArg (pm x.2) h; rwa [pm_pm, pm_pm] at this)
 have ty1 := ty_lt i hi f hf hif
 have ty2 := ty_lt _ hpi _ hpf hpn
 obtain ⟨p1, hp1⟩ : ∃ p, p = 7 * t + i := ⟨_, rfl⟩
 obtain ⟨p2, hp2⟩ : ∃ p, p = 7 * t + 4 + tyN i f := ⟨_, rfl⟩
 obtain ⟨p3, hp3⟩ : ∃ p, p = 7 * x.1 + pm x.2 i := ⟨_, rfl⟩
 obtain ⟨p4, hp4⟩ : ∃ p, p = 7 * x.1 + 4 + tyN (pm x.2 i) (pm x.2 f) := ⟨_, rfl⟩
 rw [← hp1, ← hp2, ← hp3, ← hp4]
 have l0 : (List.replicate (7 * N) (0 : Int)).length = 7 * N := by simp
 have z0 : ∀ j, nth (List.replicate (7 * N) (0 : Int)) j = 0 := fun j => by by_cases h : j < 7 * N <;> simp [Ai.nth, h]
 have b1 : p1 < 7 * N := by omega
 have b2 : p2 < 7 * N := by omega
 have b3 : p3 < 7 * N := by omega
 have b4 : p4 < 7 * N := by omega
 refine ⟨by simp [eqRow, addA_len], fun j => ?_, fun χ xs hL hC => ?_⟩
 ·have s1 := addA_small (xs := List.replicate (7 * N) 0) (b := 0) (p := p1) (d := 1) (by simp; omega) (fun j => by rw [z0]; omega) (.inl rfl)
  have s2 := addA_small (p := p2) (d := 1) (by simp [addA_len]; omega) s1 (.inl rfl)
  have s3 := addA_small (p := p3) (d := -1) (by simp [addA_len]; omega) s2 (.inr rfl)
  have s4 := addA_small (p := p4) (d := -1) (by simp [addA_len]; omega) s3 (.inr rfl) j
  unfold eqRow
  omega
 ·unfold eqRow
  rw [dotS_addA (by simp [addA_len]; omega), dotS_addA (by simp [addA_len]; omega), dotS_addA (by simp [addA_len]; omega), dotS_addA (by simp; omega), dotS_zero, if_pos b1, if_pos b2, if_pos b3, if_pos b4]
  have e1 := hL.tri t i ht hi
  have e2 := hL.quad t (tyN i f) ht ty1
  have e3 := hL.tri x.1 (pm x.2 i) hxN hpi
  have e4 := hL.quad x.1 _ hxN ty2
  have e5 := hC t f i ht hf hi hif
  rw [← hx] at e5
  rw [← hp1] at e1
  rw [← hp2] at e2
  rw [← hp3] at e3
  rw [← hp4] at e4
  rw [e1, e2, e3, e4, e5]
  omega
end Go.Proofs.Ytjlkndkedknocaa
namespace Go.Proofs.Ytjlkndkedknocaa
open Go Go.Ai
attribute [local instance] Classical.propDecidable
def RowsQ (h : List O) (lo : Nat) (v : Value) (N : Nat) (e : Nat → Nat → Nat × Bool) (q : Nat) : Prop := ∃ vs : List Value, OwnS h lo v q vs 34 1 ∧ ∀ j, j < q → ∃ rb row, vs[j]? = some (.slice (some ⟨rb, 0, none⟩) (7 * N) (7 * N)) ∧ h[rb]? = some (.cells (intsC row) 3 (some 0)) ∧ EqR N e row
theorem RowsQ.keep {h h' : List O} {lo : Nat} {v : Value} {N : Nat} {e : Nat → Nat → Nat × Bool} {q : Nat} (k : RowsQ h lo v N e q) (hs : Sub h h') : RowsQ h' lo v N e q := by
 obtain ⟨vs, h1, h2⟩ := k
 exact ⟨vs, h1.keep fun b s _ hb => hs _ _ hb, fun j hj => by obtain ⟨rb, row, r1, r2, r3⟩ := h2 j hj; exact ⟨rb, row, r1, hs _ _ r2, r3⟩⟩
variable {E : Env} (hE : OE E)
include hE
set_option maxRecDepth 4000 in
set_option maxHeartbeats 2000000 in
theorem equations_ {h0 : List O} {a : Option Addr} {N c : Nat} {e : Nat → Nat → Nat × Bool} (hg : GluP h0 a N e) (hU : GlU N e) (hN : N ≤ 60) :
  DC E 242 [.agg #[.slice a N c]] ⟨h0, h0.length⟩ fun o st' => ∃ (v : Value) (q : Nat), o = .ret (.tuple #[v, .int .i64 0]) ∧ h0.length ≤ st'.fl ∧ Sub h0 st'.h ∧ RowsQ st'.h h0.length v N e q ∧ q ≤ 16 * N := by
 refine hE.fnC (body := rb242) rfl ?_
 unfold rb242
 have hrdy := fun H (hs : Sub h0 H) => readyN_ hE (c := c) (hg.sub hs) hU hN
 obtain ⟨hN0, _, fb, cs, el, own, rfl, hfb, hF⟩ := hg
 obtain ⟨hB, hhB⟩ : ∃ H, H = h0 ++ [O.cells [.slice (some ⟨fb, 0, none⟩) N c] 29 (some 0)] := ⟨_, rfl⟩
 have lB : hB.length = h0.length + 1 := by rw [hhB]; simp
 have sB : Sub h0 hB := by rw [hhB]; exact (Sub.refl _).app _
 have bB : hB[h0.length]? = some (O.cells [.slice (some ⟨fb, 0, none⟩) N c] 29 (some 0)) := by rw [hhB, app_at0]; rfl
 have fB := sB _ _ hfb
 have hrd := hrdy hB sB
 have hj : joined ⟨hB, h0.length⟩ ⟨hB, hB.length⟩ = ⟨hB, h0.length⟩ := joined_mk _ _
 simp [List.append_assoc, rd_at0, ↓← hhB, rd_def, rdN_def, ↓bB, DC_of hrd, hj]
 refine DW_loop (fun kk fr st => ∃ (t : Nat) (h : List O) (v : Value) (q : Nat), t + kk = N ∧ st = ⟨h, h0.length⟩ ∧ Sub hB h ∧ RowsQ h hB.length v N e q ∧ q ≤ 16 * t ∧
  get fr 1 = .pointer (some ⟨h0.length, 0, none⟩) ∧ get fr 5 = v ∧ get fr 6 = .int .i64 t) ?_ (k := N) ?_
 ·rintro kk fr st ⟨t, h, v, q, htk, rfl, hs, hR, hq, g1, g5, g6⟩
  have hb := hs _ _ bB
  by_cases ht : t < N
  ·have hwt : IntKind.i64.wrap ((t : Int) + 1) = (t : Int) + 1 := by rw [w64_id] <;> omega
   simp [g1, g5, g6, rd_def, ↓hb, ht]
   refine DW_loop (fun kk2 fr st => ∃ (f : Nat) (h : List O) (v : Value) (q : Nat), f + kk2 = 4 ∧ st = ⟨h, h0.length⟩ ∧ Sub hB h ∧ RowsQ h hB.length v N e q ∧ q ≤ 16 * t + 4 * f ∧
    get fr 1 = .pointer (some ⟨h0.length, 0, none⟩) ∧ get fr 5 = v ∧ get fr 6 = .int .i64 t ∧ get fr 7 = .int .i64 f) ?_ (k := 4) ?_
   ·clear g1 g5 g6 hb hs hR hq
    clear h v q
    rintro kk2 fr st ⟨f, h, v, q, hfk, rfl, hs, hR, hq, g1, g5, g6, g7⟩
    have hb := hs _ _ bB
    have hfbh := hs _ _ fB
    by_cases hf : f < 4
    ·have hf' : (f : Int) < 4 := by omega
     have hwf : IntKind.i64.wrap ((f : Int) + 1) = (f : Int) + 1 := by rw [w64_id] <;> omega
     obtain ⟨x, hx⟩ : ∃ x, x = e t f := ⟨_, rfl⟩
     obtain ⟨x1, x2, _⟩ := face_at hF ht hf
     rw [← hx] at x1
     have hxN : x.1 < N := by rw [hx]; exact hU.lt t f ht hf
     obtain ⟨h1, hh1⟩ : ∃ H, H = h ++ [O.cells (faceL x) 99 (some 0)] := ⟨_, rfl⟩
     have s1 : Sub h h1 := by rw [hh1]; exact (Sub.refl _).app _
     have v1 : h1[h.length]? = some (O.cells (faceL x) 99 (some 0)) := by rw [hh1, app_at0]; rfl
     have l1 : h1.length = h.length + 1 := by rw [hh1]; simp
     have lsh := hs.len
     have hm0 : min h0.length h.length = h0.length := by omega
     have hPf := faceL_P x hf
     have hpf := pm_lt x.2 hf
     simp only [faceL] at x1 hh1 v1 hPf
     by_cases hskip : x.1 < t ∨ (x.1 = t ∧ pm x.2 f < f)
     ·by_cases c1 : x.1 < t
      ·simp [g1, g5, g6, g7, hf', rd_def, rdN_def, ↓hb, ↓hfbh, ht, x1, x2, wrN_at0, set_at0, ↓← hh1, hm0, ↓v1, c1, hwf]
       exact ⟨kk2 - 1, by omega, f + 1, by omega, hs.trans s1, v, q, hR.keep s1, by omega, rfl, by omega⟩
      ·have c2 : x.1 = t := by omega
       have c3 : pm x.2 f < f := by omega
       simp [g1, g5, g6, g7, hf', rd_def, rdN_def, ↓hb, ↓hfbh, ht, x1, x2, wrN_at0, set_at0, ↓← hh1, hm0, ↓v1, c1, eq_true c2, hPf, c3, hwf]
       exact ⟨kk2 - 1, by omega, f + 1, by omega, hs.trans s1, v, q, hR.keep s1, by omega, rfl, by omega⟩
     ·have c1 : ¬ x.1 < t := fun h => hskip (.inl h)
      have b1 := s1 _ _ hb
      have hck : (x.1 = t) = False ∨ ((x.1 = t) = True ∧ ¬ pm x.2 f < f) := by
       by_cases c2 : x.1 = t
       ·exact .inr ⟨eq_true c2, fun h => hskip (.inr ⟨c2, h⟩)⟩
       ·exact .inl (eq_false c2)
      obtain ⟨K, hK⟩ : ∃ K, K = 7 * N := ⟨_, rfl⟩
      have w1 : IntKind.i64.wrap (7 * (N : Int)) = (K : Int) := by rw [w64_id] <;> omega
      have z1 : (K : Int) * 8 ≤ 140737488355328 := by omega
      have z2 : (K : Int) < 4611686018427387904 := by omega
      rcases hck with c2 | ⟨c2, c3⟩
      simp [g1, g5, g6, g7, hf', rd_def, rdN_def, ↓hb, ↓hfbh, ht, x1, x2, wrN_at0, set_at0, ↓← hh1, hm0, ↓v1, c1, c2]
      rotate_left
      simp [g1, g5, g6, g7, hf', rd_def, rdN_def, ↓hb, ↓hfbh, ht, x1, x2, wrN_at0, set_at0, ↓← hh1, hm0, ↓v1, c1, c2, hPf, c3]
      all_goals
       obtain ⟨Q, hQ⟩ : ∃ Q, Q = h.length := ⟨_, rfl⟩
       rw [← hQ] at v1 l1 ⊢
       refine DW_loop (fun kk3 fr st => ∃ (i : Nat) (h' : List O) (v : Value) (q : Nat), i + kk3 = 4 ∧ st = ⟨h', h0.length⟩ ∧ Sub hB h' ∧ h'[Q]? = some (O.cells [.int .i64 x.1, .int .i64 (pm x.2 0), .int .i64 (pm x.2 1), .int .i64 (pm x.2 2), .int .i64 (pm x.2 3)] 99 (some 0)) ∧ RowsQ h' hB.length v N e q ∧ q ≤ 16 * t + 4 * f + i ∧
        get fr 1 = .pointer (some ⟨h0.length, 0, none⟩) ∧ get fr 5 = v ∧ get fr 6 = .int .i64 t ∧ get fr 7 = .int .i64 f ∧ get fr 8 = .pointer (some ⟨Q, 0, none⟩) ∧ get fr 9 = .int .i64 i) ?_ (k := 4) ?_
       ·clear g1 g5 g6 g7 hR hq c2 hb b1
        rintro kk3 fr st ⟨i, h', v, q, hik, rfl, hs', hv, hR, hq, g1, g5, g6, g7, g8, g9⟩
        have hb := hs' _ _ bB
        have ls' := hs'.len
        have lv := (List.getElem?_eq_some_iff.1 hv).1
        by_cases hi : i < 4
        ·have hi' : (i : Int) < 4 := by omega
         have hwi : IntKind.i64.wrap ((i : Int) + 1) = (i : Int) + 1 := by rw [w64_id] <;> omega
         by_cases hif : i = f
         ·subst hif
          simp [g1, g5, g6, g7, g8, g9, hi', hwi]
          exact ⟨kk3 - 1, by omega, i + 1, by omega, hs', hv, v, q, hR, by omega, rfl, by omega⟩
         ·have hpi := pm_lt x.2 hi
          have hPi := faceL_P x hi
          have hpn : pm x.2 i ≠ pm x.2 f := fun h => hif (by have := congrArg (pm x.2) h; rwa [pm_pm, pm_pm] at this)
          have t1 := fun h => type6_ hE (h := h) hi hf hif
          have t2 := fun h => type6_ hE (h := h) hpi hpf hpn
          have ty1 := ty_lt i hi f hf hif
          have ty2 := ty_lt _ hpi _ hpf hpn
          have hEq := eqRow_ok hU ht hf hi hif
          rw [← hx] at hEq
          simp only [faceL] at hPi
          obtain ⟨I, hI⟩ : ∃ I, I = pm x.2 i := ⟨_, rfl⟩
          obtain ⟨F, hFF⟩ : ∃ F, F = pm x.2 f := ⟨_, rfl⟩
          obtain ⟨y1, hy1⟩ : ∃ y, y = tyN i f := ⟨_, rfl⟩
          obtain ⟨y2, hy2⟩ : ∃ y, y = tyN I F := ⟨_, rfl⟩
          rw [← hI, ← hFF] at t2 ty2 hEq
          rw [← hI] at hPi hpi
          rw [← hy1] at t1 ty1 hEq
          rw [← hy2] at t2 ty2 hEq
          rw [← hFF] at hPf
          obtain ⟨p1, hp1⟩ : ∃ p, p = 7 * t + i := ⟨_, rfl⟩
          obtain ⟨p2, hp2⟩ : ∃ p, p = 7 * t + 4 + y1 := ⟨_, rfl⟩
          obtain ⟨p3, hp3⟩ : ∃ p, p = 7 * x.1 + I := ⟨_, rfl⟩
          obtain ⟨p4, hp4⟩ : ∃ p, p = 7 * x.1 + 4 + y2 := ⟨_, rfl⟩
          rw [← hp1, ← hp2, ← hp3, ← hp4] at hEq
          obtain ⟨R0, hR0⟩ : ∃ R, R = List.replicate K (0 : Int) := ⟨_, rfl⟩
          obtain ⟨R1, hR1⟩ : ∃ R, R = R0.set p1 (nth R0 p1 + 1) := ⟨_, rfl⟩
          obtain ⟨R2, hR2⟩ : ∃ R, R = R1.set p2 (nth R1 p2 + 1) := ⟨_, rfl⟩
          obtain ⟨R3, hR3⟩ : ∃ R, R = R2.set p3 (nth R2 p3 + -1) := ⟨_, rfl⟩
          obtain ⟨R4, hR4⟩ : ∃ R, R = R3.set p4 (nth R3 p4 + -1) := ⟨_, rfl⟩
          have hRow : eqRow N p1 p2 p3 p4 = R4 := by
           unfold eqRow addA
           rw [hR4, hR3, hR2, hR1, hR0, hK]
          rw [hRow] at hEq
          have k0 : R0.length = K := by rw [hR0]; simp
          have k1 : R1.length = K := by rw [hR1]; simp [k0]
          have k2 : R2.length = K := by rw [hR2]; simp [k1]
          have k3 : R3.length = K := by rw [hR3]; simp [k2]
          have b1 : p1 < K := by omega
          have b2 : p2 < K := by omega
          have b3 : p3 < K := by omega
          have b4 : p4 < K := by omega
          have d1 : p1 + 1 ≤ K := b1
          have d2 : p2 + 1 ≤ K := b2
          have d3 : p3 + 1 ≤ K := b3
          have d4 : p4 + 1 ≤ K := b4
          have s0 : ∀ j, -0 ≤ nth R0 j ∧ nth R0 j ≤ 0 := fun j => by rw [hR0]; by_cases h : j < K <;> simp [Ai.nth, h]
          have s1' := addA_small (by omega) s0 (.inl rfl) (p := p1)
          have s2' := addA_small (xs := R1) (p := p2) (by omega) (by rw [hR1]; exact s1') (.inl rfl)
          have s3' := addA_small (xs := R2) (p := p3) (by omega) (by rw [hR2]; exact s2') (.inr rfl)
          have s0 := s0 p1
          have s1' : -(0 + 1) ≤ nth R1 p2 ∧ nth R1 p2 ≤ 0 + 1 := by rw [hR1]; exact s1' p2
          have s2' : -(0 + 1 + 1) ≤ nth R2 p3 ∧ nth R2 p3 ≤ 0 + 1 + 1 := by rw [hR2]; exact s2' p3
          have s3' : -(0 + 1 + 1 + 1) ≤ nth R3 p4 ∧ nth R3 p4 ≤ 0 + 1 + 1 + 1 := by rw [hR3]; exact s3' p4
          have u1 : IntKind.i64.wrap (nth R0 p1 + 1) = nth R0 p1 + 1 := by rw [w64_id] <;> omega
          have u2 : IntKind.i64.wrap (nth R1 p2 + 1) = nth R1 p2 + 1 := by rw [w64_id] <;> omega
          have u3 : IntKind.i64.wrap (nth R2 p3 - 1) = nth R2 p3 + -1 := by rw [w64_id] <;> omega
          have u4 : IntKind.i64.wrap (nth R3 p4 - 1) = nth R3 p4 + -1 := by rw [w64_id] <;> omega
          have q1 : IntKind.i64.wrap (7 * (t : Int)) = 7 * (t : Int) := by rw [w64_id] <;> omega
          have q2 : IntKind.i64.wrap (7 * (t : Int) + i) = (p1 : Int) := by rw [w64_id] <;> omega
          have q3 : IntKind.i64.wrap (7 * (t : Int) + 4) = 7 * (t : Int) + 4 := by rw [w64_id] <;> omega
          have q4 : IntKind.i64.wrap (7 * (t : Int) + 4 + y1) = (p2 : Int) := by rw [w64_id] <;> omega
          have q5 : IntKind.i64.wrap (7 * (x.1 : Int)) = 7 * (x.1 : Int) := by rw [w64_id] <;> omega
          have q6 : IntKind.i64.wrap (7 * (x.1 : Int) + I) = (p3 : Int) := by rw [w64_id] <;> omega
          have q7 : IntKind.i64.wrap (7 * (x.1 : Int) + 4) = 7 * (x.1 : Int) + 4 := by rw [w64_id] <;> omega
          have q8 : IntKind.i64.wrap (7 * (x.1 : Int) + 4 + y2) = (p4 : Int) := by rw [w64_id] <;> omega
          obtain ⟨h2, hh2⟩ : ∃ H, H = h' ++ [O.cells (rep K [Value.int .i64 0]) 3 (some 0)] := ⟨_, rfl⟩
          have s2 : Sub h' h2 := by rw [hh2]; exact (Sub.refl _).app _
          have l2 : h2.length = h'.length + 1 := by rw [hh2]; simp
          obtain ⟨P, hP⟩ : ∃ P, P = h'.length := ⟨_, rfl⟩
          have at2 : h2[P]? = some (O.cells (intsC R0) 3 (some 0)) := by rw [hh2, hP, app_at0, hR0]; simp [rep, intsC]
          have hmP : min h0.length P = h0.length := by omega
          have hPl : P < h2.length := by omega
          have e1 : ∀ o, (h2.set P o)[P]? = some o := fun o => List.getElem?_set_self hPl
          have e2 : ∀ o, (h2.set P o)[Q]? = some (O.cells [.int .i64 x.1, .int .i64 (pm x.2 0), .int .i64 (pm x.2 1), .int .i64 (pm x.2 2), .int .i64 (pm x.2 3)] 99 (some 0)) := fun o => set_ne (s2 _ _ hv) (by omega)
          have e3 : ∀ o, (h2.set P o)[h0.length]? = some (O.cells [.slice (some ⟨fb, 0, none⟩) N c] 29 (some 0)) := fun o => set_ne (s2 _ _ hb) (by omega)
          have v2 := s2 _ _ hv
          have jn : ∀ o, joined ⟨h2.set P o, h0.length⟩ ⟨h2.set P o, h2.length⟩ = ⟨h2.set P o, h0.length⟩ := fun o => by
           have := joined_mk (h2.set P o) h0.length
           rwa [List.length_set] at this
          obtain ⟨h3, hh3⟩ : ∃ H, H = h2.set P (O.cells (intsC R4) 3 (some 0)) := ⟨_, rfl⟩
          have l3 : h3.length = h2.length := by rw [hh3]; simp
          have at3 : h3[P]? = some (O.cells (intsC R4) 3 (some 0)) := by rw [hh3]; exact e1 _
          have s3 : Sub h' h3 := fun b o hb => by
           have := (List.getElem?_eq_some_iff.1 hb).1
           rw [hh3]
           exact set_ne (s2 _ _ hb) (by omega)
          obtain ⟨h4, hh4⟩ : ∃ H, H = h3 ++ [O.cells [.slice (some ⟨P, 0, none⟩) K K] 34 (some 0)] := ⟨_, rfl⟩
          have s4 : Sub h3 h4 := by rw [hh4]; exact (Sub.refl _).app _
          have l4 : h4.length = h3.length + 1 := by rw [hh4]; simp
          obtain ⟨vs, hvs, hrow⟩ := hR
          have ho4 : OwnT h4 hB.length v q vs 34 1 := .inr (hvs.keep fun b s _ hb => s4 _ _ (s3 _ _ hb))
          have hread : readSlice h4 1 1 (some ⟨h3.length, 0, none⟩) = some [.slice (some ⟨P, 0, none⟩) K K] := by rw [hh4]; simp [readSlice, rdN_at0]
          have rm : (q + 1) * 24 ≤ roomMax := by simp only [roomMax]; omega
          obtain ⟨b', h5, f5, hap, hb', hown, hx1, hx2, hL5, K5⟩ := append_T (fl := h0.length) (c := 1) (bytes := 24) ho4 hread rfl rfl (by have := hs.len; omega) rm (by omega)
          obtain rfl : f5 = h0.length := by omega
          have hint : ∀ (b : Nat) (ws : List Int), h3[b]? = some (.cells (intsC ws) 3 (some 0)) → h5[b]? = some (.cells (intsC ws) 3 (some 0)) := fun b ws hb => K5 _ _ (s4 _ _ hb) (.inr fun c s he => by
           have := (O.cells.inj he).2.1
           exact absurd this (by decide))
          have hR5 : RowsQ h5 hB.length (.slice (some ⟨b', 0, none⟩) (q + 1) (q + 1)) N e (q + 1) := by
           refine ⟨vs ++ [.slice (some ⟨P, 0, none⟩) K K], ?_, fun j hj => ?_⟩
           ·rcases hown with ⟨he, _⟩ | hown
            ·cases he
            ·exact hown
           ·have hvl : vs.length = q := by have := hvs.1; omega
            by_cases hjq : j < q
            ·obtain ⟨rb, ws, r1, r2, r3⟩ := hrow j hjq
             exact ⟨rb, ws, by rw [List.getElem?_append_left (by omega)]; exact r1, hint _ _ (s3 _ _ r2), r3⟩
            ·have : j = q := by omega
             subst this
             exact ⟨P, R4, by rw [List.getElem?_append_right (by omega), hvl, Nat.sub_self, hK]; rfl, hint _ _ at3, hEq⟩
          have s15 : Sub hB h5 := fun b o hb => K5 _ _ (s4 _ _ (s3 _ _ (hs' _ _ hb))) (.inl (List.getElem?_eq_some_iff.1 hb).1)
          have v5 := K5 _ _ (s4 _ _ (s3 _ _ hv)) (.inr fun c s he => by
           have := (O.cells.inj he).2.1
           exact absurd this (by decide))
          have hPQ : ¬ P = Q := by omega
          simp [g1, g5, g6, g7, g8, g9, hi', hf', hif, rd_def, ↓hb, ↓hv, ↓v2, hPf, hPi, w1, z1, z2, ↓← hh2, ← hP, q1, q2, q3, q4, q5, q6, q7, q8, b1, b2, b3, b4, d1, d2, d3, d4, ↓at2, intsC_get, k0, k1, k2, k3, u1, u2, u3, u4, wrN_def, hmP, intsC_set, ← hR1, ← hR2, ← hR3, ← hR4, ↓e1, ↓e2, ↓e3, DC_q t1, DC_q t2, jn, bit, hPQ, ← hh3, ← hh4, hap, hwi]
          exact ⟨kk3 - 1, by omega, i + 1, by omega, s15, v5, _, q + 1, hR5, by omega, rfl, by omega⟩
        ·have hi4 : i = 4 := by omega
         subst hi4
         simp [g1, g5, g6, g7, g8, g9, hwf]
         exact ⟨kk2 - 1, by omega, f + 1, by omega, hs', v, q, hR, by omega, rfl, by omega⟩
       ·exact ⟨0, h1, v, q, by omega, rfl, hs.trans s1, v1, hR.keep s1, by omega, by simp [g1, g5, g6, g7]⟩
    ·have hf4 : f = 4 := by omega
     subst hf4
     simp [g1, g5, g6, g7, hwt]
     exact ⟨kk - 1, by omega, t + 1, by omega, hs, v, q, hR, by omega, rfl, by omega⟩
   ·exact ⟨0, h, v, q, by omega, rfl, hs, hR, by omega, by simp [g1, g5, g6]⟩
  ·have htN : t = N := by omega
   simp [g1, g5, g6, rd_def, ↓hb, ht]
   unfold pairQ back
   split
   ·rename_i hc
    obtain ⟨vs, ⟨k0, k1⟩, _⟩ := hR
    rcases k1 with ⟨rfl, rfl⟩ | ⟨b, s, rfl, _⟩
    ·exact ⟨_, rfl, Nat.le_refl _, Sub.refl _, 0, ⟨[], OwnS.nil _ _ _ _, fun j hj => by omega⟩, by omega⟩
    ·simp [Out.scalar, scalar, flat1, flat] at hc
   ·obtain ⟨vs, ⟨k0, k1⟩, k2⟩ := hR
    refine ⟨v, rfl, Nat.le_refl _, sB.trans hs, q, ⟨vs, ⟨k0, ?_⟩, k2⟩, by omega⟩
    rcases k1 with k1 | ⟨b, s, e1, e2, e3⟩
    ·exact .inl k1
    ·exact .inr ⟨b, s, e1, by omega, e3⟩
 ·exact ⟨0, hB, .slice none 0 0, 0, by omega, rfl, Sub.refl _, ⟨[], OwnS.nil _ _ _ _, fun j hj => by omega⟩, by omega, by simp⟩
end Go.Proofs.Ytjlkndkedknocaa
namespace Go.Proofs.Ytjlkndkedknocaa
open Go Go.Ai
attribute [local instance] Classical.propDecidable
theorem LkR.rng {N : Nat} {χ : Nat → Nat} {xs : List Int} (h : LkR N χ xs) (j : Nat) : 0 ≤ nth xs j ∧ nth xs j ≤ 1 := by
 by_cases hj : j < 7 * N
 ·by_cases c : j % 7 < 4
  ·have h1 := h.tri (j / 7) (j % 7) (by omega) c
   have h2 := h.one (4 * (j / 7) + j % 7) (by omega)
   rw [show 7 * (j / 7) + j % 7 = j by omega] at h1
   omega
  ·have h1 := h.quad (j / 7) (j % 7 - 4) (by omega) (by omega)
   rw [show 7 * (j / 7) + 4 + (j % 7 - 4) = j by omega] at h1
   omega
 ·have : nth xs j = 0 := by simp [Ai.nth, show ¬ j < xs.length by rw [h.len]; exact hj]
  omega
variable {E : Env} (hE : OE E)
include hE
set_option maxHeartbeats 1000000 in
theorem admissible_ {h0 : List O} {a a' : Option Addr} {N c c' : Nat} {e : Nat → Nat → Nat × Bool} {χ : Nat → Nat} {xs : List Int} (hg : GluP h0 a N e) (hU : GlU N e) (hN : N ≤ 60) (hl : LisP h0 a' (7 * N) xs) (hx : LkR N χ xs) (hC : ClsInv N e χ) :
  DR E 223 [.agg #[.slice a N c], .slice a' (7 * N) c'] ⟨h0, h0.length⟩ (.ret (.bool true)) ⟨h0, h0.length⟩ := by
 refine hE.fn (body := rb223) rfl ?_
 unfold rb223
 have hN0 : 0 < N := hg.1
 obtain ⟨K, hK⟩ : ∃ K, K = 7 * N := ⟨_, rfl⟩
 have hlen : xs.length = K := by rw [hx.len, hK]
 obtain ⟨bx, elx, ox, rfl, hbx, _⟩ := lis_get hl (show 0 < 7 * N by omega)
 have heq := fun H (hs : Sub h0 H) => equations_ hE (c := c) (hg.sub hs) hU hN
 rw [← hK] at hl ⊢
 obtain ⟨hB, hhB⟩ : ∃ H, H = h0 ++ [O.cells [.slice a N c] 29 (some 0)] := ⟨_, rfl⟩
 have lB : hB.length = h0.length + 1 := by rw [hhB]; simp
 have sB : Sub h0 hB := by rw [hhB]; exact (Sub.refl _).app _
 have bB : hB[h0.length]? = some (O.cells [.slice a N c] 29 (some 0)) := by rw [hhB, app_at0]; rfl
 have bxB := sB _ _ hbx
 have w1 : IntKind.i64.wrap (7 * (N : Int)) = (K : Int) := by rw [w64_id] <;> omega
 simp [List.append_assoc, rd_at0, ↓← hhB, rd_def, rdN_def, ↓bB, w1]
 refine DW_loop (fun kk fr st => ∃ (i : Nat), i + kk = K ∧ st = ⟨hB, h0.length⟩ ∧ get fr 1 = .slice (some ⟨bx, 0, none⟩) K c' ∧ get fr 2 = .pointer (some ⟨h0.length, 0, none⟩) ∧ get fr 5 = .int .i64 i) ?_ (k := K) ?_
 ·rintro kk fr st ⟨i, hik, rfl, g1, g2, g5⟩
  by_cases hi : i < K
  ·have hw : IntKind.i64.wrap ((i : Int) + 1) = (i : Int) + 1 := by rw [w64_id] <;> omega
   have hr := hx.rng i
   have r1 : ¬ nth xs i < 0 := by omega
   have r2 : ¬ 1000000 < nth xs i := by omega
   simp [g1, g2, g5, hi, rd_def, ↓bxB, intsC_get, hlen, r1, r2, hw]
   exact ⟨kk - 1, by omega, i + 1, by omega, by omega⟩
  ·simp [g1, g2, g5, hi]
   refine DW_loop (fun kk fr st => ∃ (t : Nat), t + kk = N ∧ st = ⟨hB, h0.length⟩ ∧ get fr 1 = .slice (some ⟨bx, 0, none⟩) K c' ∧ get fr 2 = .pointer (some ⟨h0.length, 0, none⟩) ∧ get fr 6 = .int .i64 t) ?_ (k := N) ?_
   ·clear g1 g2 g5
    rintro kk fr st ⟨t, htk, rfl, g1, g2, g6⟩
    by_cases ht : t < N
    ·have hwt : IntKind.i64.wrap ((t : Int) + 1) = (t : Int) + 1 := by rw [w64_id] <;> omega
     simp [g1, g2, g6, rd_def, ↓bB, ht]
     refine DW_loop (fun kk2 fr st => ∃ (j : Nat), j + kk2 = 3 ∧ st = ⟨hB, h0.length⟩ ∧ get fr 1 = .slice (some ⟨bx, 0, none⟩) K c' ∧ get fr 2 = .pointer (some ⟨h0.length, 0, none⟩) ∧ get fr 6 = .int .i64 t ∧ get fr 7 = .int .i64 0 ∧ get fr 8 = .int .i64 j) ?_ (k := 3) ?_
     ·clear g1 g2 g6
      rintro kk2 fr st ⟨j, hjk, rfl, g1, g2, g6, g7, g8⟩
      by_cases hj : j < 3
      ·have hj' : (j : Int) < 3 := by omega
       have hwj : IntKind.i64.wrap ((j : Int) + 1) = (j : Int) + 1 := by rw [w64_id] <;> omega
       have hz := hx.quad t j ht hj
       obtain ⟨p, hp⟩ : ∃ p, p = 7 * t + 4 + j := ⟨_, rfl⟩
       rw [← hp] at hz
       have q1 : IntKind.i64.wrap (7 * (t : Int)) = 7 * (t : Int) := by rw [w64_id] <;> omega
       have q2 : IntKind.i64.wrap (7 * (t : Int) + 4) = 7 * (t : Int) + 4 := by rw [w64_id] <;> omega
       have q3 : IntKind.i64.wrap (7 * (t : Int) + 4 + j) = (p : Int) := by rw [w64_id] <;> omega
       have hpK : p < K := by omega
       simp [g1, g2, g6, g7, g8, hj', q1, q2, q3, rd_def, ↓bxB, hpK, intsC_get, hlen, hz, hwj]
       exact ⟨kk2 - 1, by omega, j + 1, by omega, by omega⟩
      ·simp [g1, g2, g6, g7, g8, show ¬ (j : Int) < 3 by omega, hwt]
       exact ⟨kk - 1, by omega, t + 1, by omega, by omega⟩
     ·exact ⟨0, by omega, rfl, by simp [g1, g2, g6]⟩
    ·simp [g1, g2, g6, rd_def, rdN_def, ↓bB, ht]
     refine (heq hB sB).imp ?_
     rintro o ⟨h1, f1⟩ ⟨v, q, rfl, hf1, hs1, ⟨vs, hvs, hrow⟩, hq⟩
     simp only at hf1 hs1 hvs hrow
     have hj1 : joined ⟨hB, h0.length⟩ ⟨h1, f1⟩ = ⟨h1, h0.length⟩ := by
      simp only [joined]
      split
      ·congr 1; omega
      ·rfl
     have ls1 := hs1.len
     have bx1 := hs1 _ _ bxB
     simp [hj1]
     refine DW_loop (fun kk fr st => ∃ (i : Nat), i + kk = q ∧ st = ⟨h1, h0.length⟩ ∧ get fr 1 = .slice (some ⟨bx, 0, none⟩) K c' ∧ get fr 9 = v ∧ get fr 11 = .int .i64 i) ?_ (k := q) ?_
     ·clear g1 g2 g6
      rintro kk fr st ⟨i, hik, rfl, g1, g9, g11⟩
      obtain ⟨hv0, hv1⟩ := hvs
      by_cases hi : i < q
      ·have hw : IntKind.i64.wrap ((i : Int) + 1) = (i : Int) + 1 := by rw [w64_id] <;> omega
       obtain ⟨b, s, rfl, _, hb, _⟩ : ∃ b s, v = .slice (some ⟨b, 0, none⟩) q q ∧ hB.length ≤ b ∧ h1[b]? = some (.cells vs 34 (some s)) ∧ (s = 0 ∨ s = 1) := by
        rcases hv1 with ⟨_, h0⟩ | h0
        ·omega
        ·exact h0
       obtain ⟨rb, row, r1, r2, r3⟩ := hrow i hi
       have hd := dot_ hE (c := 7 * N) (c' := c') (a := some ⟨rb, 0, none⟩) (h := h1) (M := K) ⟨by rw [r3.len, hK], fun _ => ⟨_, _, _, rfl, r2⟩⟩ ⟨hlen, fun _ => ⟨_, _, _, rfl, bx1⟩⟩ (by omega) r3.small hx.rng
       rw [hK] at hd
       rw [r3.dot χ xs hx hC] at hd
       rw [← hK] at hd r1
       have hjn : joined ⟨h1, h0.length⟩ ⟨h1, h1.length⟩ = ⟨h1, h0.length⟩ := joined_mk _ _
       simp [g1, g9, g11, hi, rd_def, ↓hb, r1, DC_of hd, hjn, hw]
       exact ⟨kk - 1, by omega, i + 1, by omega, by omega⟩
      ·rcases hv1 with ⟨rfl, h0⟩ | ⟨b, s, rfl, _⟩
       ·subst h0
        obtain rfl : i = 0 := by omega
        simp [g1, g9, g11]
       ·simp [g1, g9, g11, hi]
     ·exact ⟨0, by omega, rfl, by simp [g1]⟩
   ·exact ⟨0, by omega, rfl, by simp [g1, g2]⟩
 ·exact ⟨0, by omega, rfl, by simp⟩
theorem check13_ {h0 : List O} {a a' : Option Addr} {N c c' : Nat} {e : Nat → Nat → Nat × Bool} {χ : Nat → Nat} {xs : List Int} (hg : GluP h0 a N e) (hU : GlU N e) (hN : N ≤ 60) (hl : LisP h0 a' (7 * N) xs) (hx : LkR N χ xs) (hC : ClsInv N e χ) :
  DR E 163 [.agg #[.slice a N c], .slice a' (7 * N) c'] ⟨h0, h0.length⟩ (.ret (.int .i64 0)) ⟨h0, h0.length⟩ := by
 refine hE.fn (body := rb163) rfl ?_
 unfold rb163
 obtain ⟨hB, hhB⟩ : ∃ H, H = h0 ++ [O.cells [.slice a N c] 29 (some 0)] := ⟨_, rfl⟩
 have sB : Sub h0 hB := by rw [hhB]; exact (Sub.refl _).app _
 have bB : hB[h0.length]? = some (O.cells [.slice a N c] 29 (some 0)) := by rw [hhB, app_at0]; rfl
 have hrd := readyN_ hE (c := c) (hg.sub sB) hU hN
 have had := admissible_ hE (c := c) (c' := c') (hg.sub sB) hU hN (hl.sub sB) hx hC
 have hj : joined ⟨hB, h0.length⟩ ⟨hB, hB.length⟩ = ⟨hB, h0.length⟩ := joined_mk _ _
 simp [List.append_assoc, rd_at0, ↓← hhB, rd_def, rdN_def, ↓bB, DC_of hrd, DC_of had, hj]
end Go.Proofs.Ytjlkndkedknocaa
namespace Go.Proofs.Ytjlkndkedknocaa
open Go Go.Ai
attribute [local instance] Classical.propDecidable
def nbK (e : Nat → Nat → Nat × Bool) (u f : Nat) : Option Nat :=
 if f = edA (u % 6) ∨ f = edB (u % 6) then none else some (6 * (e (u / 6) f).1 + edN (pm (e (u / 6) f).2 (edA (u % 6))) (pm (e (u / 6) f).2 (edB (u % 6))))
theorem pm_edge : ∀ sw : Bool, ∀ v, v < 6 → edN (pm sw (edA v)) (pm sw (edB v)) < 6 ∧ edN (pm sw (edA (edN (pm sw (edA v)) (pm sw (edB v))))) (pm sw (edB (edN (pm sw (edA v)) (pm sw (edB v))))) = v ∧ ∀ f, f < 4 → (pm sw f = edA (edN (pm sw (edA v)) (pm sw (edB v))) ∨ pm sw f = edB (edN (pm sw (edA v)) (pm sw (edB v))) ↔ f = edA v ∨ f = edB v) := by decide
theorem nbK_sym {N : Nat} {e : Nat → Nat → Nat × Bool} (hU : GlU N e) {u f w : Nat} (hu : u < 6 * N) (hf : f < 4) (h : nbK e u f = some w) : w < 6 * N ∧ ∃ f', f' < 4 ∧ nbK e w f' = some u := by
 unfold nbK at h
 split at h
 ·cases h
 ·rename_i hne
  obtain rfl := Option.some.inj h
  obtain ⟨x, hx⟩ : ∃ x, x = e (u / 6) f := ⟨_, rfl⟩
  have h1 := hU.lt (u / 6) f (by omega) hf
  have h2 := hU.sym (u / 6) f (by omega) hf
  rw [← hx] at h1 h2 ⊢
  obtain ⟨p1, p2, p3⟩ := pm_edge x.2 (u % 6) (Nat.mod_lt _ (by omega))
  obtain ⟨v, hv⟩ : ∃ v, v = edN (pm x.2 (edA (u % 6))) (pm x.2 (edB (u % 6))) := ⟨_, rfl⟩
  rw [← hv] at p1 p2 p3 ⊢
  refine ⟨by omega, pm x.2 f, pm_lt _ hf, ?_⟩
  unfold nbK
  rw [show (6 * x.1 + v) / 6 = x.1 by omega, show (6 * x.1 + v) % 6 = v by omega, if_neg (fun hc => hne ((p3 f hf).1 hc)), h2]
  simp only
  rw [p2]
  congr 1
  omega
theorem VK_lt {N : Nat} {e : Nat → Nat → Nat × Bool} (hU : GlU N e) {a b : Nat} (ha : a < 6 * N) (h : VC (nbK e) a b) : b < 6 * N := by
 induction h with
 | refl => exact ha
 | step f _ hf hw ih => exact (nbK_sym hU ih hf hw).1
theorem VK_symm {N : Nat} {e : Nat → Nat → Nat × Bool} (hU : GlU N e) {a b : Nat} (ha : a < 6 * N) (h : VC (nbK e) a b) : VC (nbK e) b a := by
 induction h with
 | refl => exact .refl _
 | step f hab hf hw ih =>
  obtain ⟨_, f', hf', hw'⟩ := nbK_sym hU (VK_lt hU ha hab) hf hw
  exact ((VC.refl _).step f' hf' hw').trans ih
structure ClE (N : Nat) (e : Nat → Nat → Nat × Bool) (J : Nat) (cls : List Int) : Prop where
 len : cls.length = 6 * N
 sound : ∀ a b, a < 6 * N → b < 6 * N → nth cls a = nth cls b → VC (nbK e) a b
 comp : ∀ t f v w, t < N → f < 4 → v < 6 → (t * 4 + f) * 6 + v < J → nbK e (6 * t + v) f = some w → nth cls (6 * t + v) = nth cls w
theorem ClE.skip {N : Nat} {e : Nat → Nat → Nat × Bool} {t f v : Nat} {cls : List Int} (h : ClE N e ((t * 4 + f) * 6 + v) cls) (hf : f < 4) (hv : v < 6) (hn : nbK e (6 * t + v) f = none) : ClE N e ((t * 4 + f) * 6 + (v + 1)) cls := by
 refine ⟨h.len, h.sound, fun t' f' v' w h1 h2 h3 h4 h5 => ?_⟩
 by_cases k : (t' * 4 + f') * 6 + v' = (t * 4 + f) * 6 + v
 ·have e1 : t' = t := by omega
  have e2 : f' = f := by omega
  have e3 : v' = v := by omega
  rw [e1, e2, e3, hn] at h5; cases h5
 ·exact h.comp t' f' v' w h1 h2 h3 (by omega) h5
theorem ClE.merge {N : Nat} {e : Nat → Nat → Nat × Bool} (hU : GlU N e) {t f v w : Nat} {cls cls' : List Int} (h : ClE N e ((t * 4 + f) * 6 + v) cls) (ht : t < N) (hf : f < 4) (hv : v < 6) (hw : nbK e (6 * t + v) f = some w) (hl : cls'.length = 6 * N)
  (hc : ∀ a, a < 6 * N → nth cls' a = if nth cls a = max (nth cls (6 * t + v)) (nth cls w) then min (nth cls (6 * t + v)) (nth cls w) else nth cls a) : ClE N e ((t * 4 + f) * 6 + (v + 1)) cls' := by
 have hu : 6 * t + v < 6 * N := by omega
 have hwN := (nbK_sym hU hu hf hw).1
 obtain ⟨u, hue⟩ : ∃ u, u = 6 * t + v := ⟨_, rfl⟩
 rw [← hue] at hu hw hc
 have hV : VC (nbK e) u w := (VC.refl _).step f hf hw
 have hV' := VK_symm hU hu hV
 refine ⟨hl, fun a b ha hb he => ?_, fun t' f' v' w' h1 h2 h3 h4 h5 => ?_⟩
 ·rw [hc a ha, hc b hb] at he
  have toU : ∀ a, a < 6 * N → nth cls a = nth cls u ∨ nth cls a = nth cls w → VC (nbK e) a u := fun a ha h0 => by
   rcases h0 with h0 | h0
   ·exact h.sound a u ha hu h0
   ·exact (h.sound a w ha hwN h0).trans hV'
  by_cases c1 : nth cls a = max (nth cls u) (nth cls w)
  ·rw [if_pos c1] at he
   by_cases c2 : nth cls b = max (nth cls u) (nth cls w)
   ·exact h.sound a b ha hb (by omega)
   ·rw [if_neg c2] at he
    exact (toU a ha (by omega)).trans (VK_symm hU hb (toU b hb (by omega)))
  ·rw [if_neg c1] at he
   by_cases c2 : nth cls b = max (nth cls u) (nth cls w)
   ·rw [if_pos c2] at he
    exact (toU a ha (by omega)).trans (VK_symm hU hb (toU b hb (by omega)))
   ·rw [if_neg c2] at he
    exact h.sound a b ha hb he
 ·have hu' : 6 * t' + v' < 6 * N := by omega
  have hw' := (nbK_sym hU hu' h2 h5).1
  by_cases k : (t' * 4 + f') * 6 + v' = (t * 4 + f) * 6 + v
  ·have e1 : t' = t := by omega
   have e2 : f' = f := by omega
   have e3 : v' = v := by omega
   subst e1 e2 e3
   rw [← hue] at h5 hu' ⊢
   rw [hw] at h5
   obtain rfl := Option.some.inj h5
   rw [hc u hu, hc w hwN]
   split <;> split <;> omega
  ·rw [hc _ hu', hc _ hw', h.comp t' f' v' w' h1 h2 h3 (by omega) h5]
theorem ClE.fin {N : Nat} {e : Nat → Nat → Nat × Bool} (hU : GlU N e) {cls : List Int} (h : ClE N e (24 * N) cls) {a b : Nat} (ha : a < 6 * N) (hb : b < 6 * N) : nth cls a = nth cls b ↔ VC (nbK e) a b := by
 refine ⟨h.sound a b ha hb, fun hV => ?_⟩
 have key : ∀ c, VC (nbK e) a c → nth cls a = nth cls c := by
  intro c hc
  induction hc with
  | refl => rfl
  | @step d w f hab hf hw ih =>
   have hd := VK_lt hU ha hab
   rw [ih]
   have := h.comp (d / 6) f (d % 6) w (by omega) hf (Nat.mod_lt _ (by omega)) (by omega)
   rw [show 6 * (d / 6) + d % 6 = d by omega] at this
   exact this hw
 exact key b hV
end Go.Proofs.Ytjlkndkedknocaa
namespace Go.Proofs.Ytjlkndkedknocaa
open Go Go.Ai
attribute [local instance] Classical.propDecidable
variable {E : Env} (hE : OE E)
include hE
set_option maxHeartbeats 1000000 in
theorem edgeClasses_ {h0 : List O} {a : Option Addr} {M c : Nat} {e : Nat → Nat → Nat × Bool} (hg : GluP h0 a M e) (hU : GlU M e) :
  DC E 33 [.agg #[.slice a M c]] ⟨h0, h0.length⟩ fun o st' => ∃ (b : Nat) (cls ys : List Int) (cnt : Nat), o = .ret (.slice (some ⟨b, 0, none⟩) (6 * M) (6 * M)) ∧ h0.length ≤ b ∧ h0.length ≤ st'.fl ∧ Sub h0 st'.h ∧ AtB st'.h b (.cells (intsC ys) 3 (some 0)) ∧
   NumI cls ys (6 * M) (6 * M) cnt ∧ cnt ≤ 6 * M ∧ ∀ a b, a < 6 * M → b < 6 * M → (nth cls a = nth cls b ↔ VC (nbK e) a b) := by
 refine hE.fnC (body := rb33) rfl ?_
 unfold rb33
 obtain ⟨hn, hsz, fb, cs, el, own, rfl, hfb, hF⟩ := hg
 obtain ⟨N, hN⟩ : ∃ N, N = 6 * M := ⟨_, rfl⟩
 rw [← hN]
 obtain ⟨hB, hhB⟩ : ∃ H, H = h0 ++ [O.cells [.slice (some ⟨fb, 0, none⟩) M c] 29 (some 0)] := ⟨_, rfl⟩
 have lB : hB.length = h0.length + 1 := by rw [hhB]; simp
 have sB : Sub h0 hB := by rw [hhB]; exact (Sub.refl _).app _
 have bB : hB[h0.length]? = some (O.cells [.slice (some ⟨fb, 0, none⟩) M c] 29 (some 0)) := by rw [hhB, app_at0]; rfl
 have fB := sB _ _ hfb
 have w1 : IntKind.i64.wrap (6 * (M : Int)) = N := by rw [w64_id] <;> omega
 have hst := start_ hE (h0 := hB) (N := N) (by omega)
 simp [rd_at0, w1]
 rw [← hhB, ← lB]
 refine hst.imp ?_
 rintro o ⟨h1, f1⟩ ⟨cls0, rfl, hf1, hs1, hat1, hl1, hc1⟩
 simp only at hf1 hs1 hat1
 obtain ⟨m, hm⟩ : ∃ m, m = hB.length := ⟨_, rfl⟩
 rw [← hm] at hat1 hf1 lB ⊢
 have hCl0 : ClE M e 0 cls0 := ⟨by omega, fun a b ha hb e => by
  rw [hc1 a (by omega), hc1 b (by omega)] at e
  rw [show a = b by omega]
  exact .refl _, fun t f v w _ _ _ h => by omega⟩
 have hjo1 : joined ⟨hB, h0.length⟩ ⟨h1, f1⟩ = ⟨h1, h0.length⟩ := joined_fl (by simp only; omega)
 simp [hjo1]
 refine DW_loop (fun kk fr st => ∃ (t : Nat) (h : List O) (cls : List Int), t + kk = M ∧ st = ⟨h, h0.length⟩ ∧ Sub hB h ∧ AtB h m (.cells (intsC cls) 3 (some 0)) ∧ ClE M e (t * 24) cls ∧ get fr 1 = .pointer (some ⟨h0.length, 0, none⟩) ∧ get fr 3 = .slice (some ⟨m, 0, none⟩) N N ∧ get fr 4 = .int .i64 t) ?_ (k := M) ?_
 ·rintro kk fr st ⟨t, h, cls, htk, rfl, hsub, hat, hCl, g1, g3, g4⟩
  have hb := hsub _ _ bB
  by_cases ht : t < M
  ·simp [g1, g3, g4, rd_def, hb, ht]
   refine DW_loop (fun kk' fr st => ∃ (f : Nat) (h : List O) (cls : List Int), f + kk' = 4 ∧ st = ⟨h, h0.length⟩ ∧ Sub hB h ∧ AtB h m (.cells (intsC cls) 3 (some 0)) ∧ ClE M e ((t * 4 + f) * 6) cls ∧ get fr 1 = .pointer (some ⟨h0.length, 0, none⟩) ∧ get fr 3 = .slice (some ⟨m, 0, none⟩) N N ∧ get fr 4 = .int .i64 t ∧ get fr 5 = .int .i64 f) ?_ (k := 4) ?_
   ·clear g1 g3 g4 hsub hat hCl hb
    clear h cls
    rintro kk' fr st ⟨f, h, cls, hfk, rfl, hsub, hat, hCl, g1, g3, g4, g5⟩
    have hb := hsub _ _ bB
    have hfbh := hsub _ _ fB
    have hwt : IntKind.i64.wrap ((t : Int) + 1) = (t : Int) + 1 := by rw [w64_id] <;> omega
    have hwf : IntKind.i64.wrap ((f : Int) + 1) = (f : Int) + 1 := by rw [w64_id] <;> omega
    by_cases hf : f < 4
    ·have hf' : (f : Int) < 4 := by omega
     obtain ⟨hface, _, _⟩ := face_at hF ht hf
     have hcl := hF.1
     have hb5 : t * 20 + f * 5 + 5 ≤ cs.length := by omega
     obtain ⟨x, hx⟩ : ∃ x, x = e t f := ⟨_, rfl⟩
     rw [← hx] at hface
     have hPv : ∀ v, v < 4 → [Value.int .i64 x.1, .int .i64 (pm x.2 0), .int .i64 (pm x.2 1), .int .i64 (pm x.2 2), .int .i64 (pm x.2 3)][1 + v]? = some (.int .i64 (pm x.2 v)) := fun v hv => faceL_P x hv
     simp only [faceL] at hface
     obtain ⟨h2, hh2⟩ : ∃ H, H = h ++ [O.cells [Value.int .i64 x.1, .int .i64 (pm x.2 0), .int .i64 (pm x.2 1), .int .i64 (pm x.2 2), .int .i64 (pm x.2 3)] 99 (some 0)] := ⟨_, rfl⟩
     have s2 : Sub h h2 := by rw [hh2]; exact (Sub.refl _).app _
     have b2 : h2[h.length]? = some (O.cells [Value.int .i64 x.1, .int .i64 (pm x.2 0), .int .i64 (pm x.2 1), .int .i64 (pm x.2 2), .int .i64 (pm x.2 3)] 99 (some 0)) := by rw [hh2, app_at0]; rfl
     have hsl := hsub.len
     have hmin : min h0.length h.length = h0.length := by omega
     have lmh := (List.getElem?_eq_some_iff.1 hat).1
     have hxlt : x.1 < M := by rw [hx]; exact hU.lt t f ht hf
     have hx0 : (0 : Int) ≤ x.1 := by omega
     simp [g1, g3, g4, g5, hf', rd_def, rdN_def, hb, ht, hfbh, hb5, hface, wrN_at0, set_at0, hmin]
     rw [← hh2]
     refine DW_loop (fun kk2 fr st => ∃ (v : Nat) (h3 : List O) (cls : List Int), v + kk2 = 6 ∧ st = ⟨h3, h0.length⟩ ∧ (h3.length = h2.length ∧ ∀ (b : Nat) (o : O), h2[b]? = some o → b ≠ m → h3[b]? = some o) ∧ AtB h3 m (.cells (intsC cls) 3 (some 0)) ∧ ClE M e ((t * 4 + f) * 6 + v) cls ∧ get fr 1 = .pointer (some ⟨h0.length, 0, none⟩) ∧ get fr 3 = .slice (some ⟨m, 0, none⟩) N N ∧ get fr 4 = .int .i64 t ∧ get fr 5 = .int .i64 f ∧ get fr 6 = .pointer (some ⟨h.length, 0, none⟩) ∧ get fr 7 = .int .i64 v) ?_ (k := 6) ?_
     ·clear g1 g3 g4 g5 hCl hat
      clear cls
      rintro kk2 fr st ⟨v, h3, cls, hvk, rfl, ⟨hl3, hk3⟩, hat, hCl, g1, g3, g4, g5, g6, g7⟩
      have hat' := hat
      unfold AtB at hat'
      have b3 := hk3 _ _ b2 (by omega)
      have hwv : IntKind.i64.wrap ((v : Int) + 1) = (v : Int) + 1 := by rw [w64_id] <;> omega
      by_cases hv : v < 6
      ·have hv' : (v : Int) < 6 := by omega
       have hen := ends6_ hE (h := h3) hv
       have hj3 : joined ⟨h3, h0.length⟩ ⟨h3, h3.length⟩ = ⟨h3, h0.length⟩ := joined_mk _ _
       obtain ⟨d1, d2, d3⟩ := ed_lt v hv
       by_cases hvf : f = edA v ∨ f = edB v
       ·have hno : nbK e (6 * t + v) f = none := by
         unfold nbK
         rw [show (6 * t + v) % 6 = v by omega, if_pos hvf]
        by_cases c1 : edA v = f
        ·simp [g1, g3, g4, g5, g6, g7, hv', rd_def, b3, hwv, DC_of hen, hj3, c1]
         exact ⟨kk2 - 1, by omega, v + 1, by omega, ⟨hl3, hk3⟩, cls, hat, hCl.skip hf hv hno, by omega⟩
        ·have c2 : edB v = f := by omega
         simp [g1, g3, g4, g5, g6, g7, hv', rd_def, b3, hwv, DC_of hen, hj3, c1, c2]
         exact ⟨kk2 - 1, by omega, v + 1, by omega, ⟨hl3, hk3⟩, cls, hat, hCl.skip hf hv hno, by omega⟩
       ·have c1 : ¬ edA v = f := fun h => hvf (.inl h.symm)
        have c2 : ¬ edB v = f := fun h => hvf (.inr h.symm)
        obtain ⟨u, hu⟩ : ∃ u, u = 6 * t + v := ⟨_, rfl⟩
        obtain ⟨p1, p2, _⟩ := pm_edge x.2 v hv
        obtain ⟨r, hr⟩ : ∃ r, r = edN (pm x.2 (edA v)) (pm x.2 (edB v)) := ⟨_, rfl⟩
        have hA4 : edA v < 4 := by omega
        have pA := pm_lt x.2 hA4
        have pB := pm_lt x.2 d2
        have pne : pm x.2 (edA v) ≠ pm x.2 (edB v) := fun h => by
         have := congrArg (pm x.2) h
         rw [pm_pm, pm_pm] at this
         omega
        have hed := edge6_ hE (h := h3) pA pB pne
        rw [← hr] at hed p1
        obtain ⟨w, hw⟩ : ∃ w, w = 6 * x.1 + r := ⟨_, rfl⟩
        have hnw : nbK e (6 * t + v) f = some w := by
         unfold nbK
         rw [show (6 * t + v) % 6 = v by omega, show (6 * t + v) / 6 = t by omega, if_neg hvf, ← hx, ← hr, hw]
        have w1' : IntKind.i64.wrap (6 * (t : Int)) = 6 * (t : Int) := by rw [w64_id] <;> omega
        have w2' : IntKind.i64.wrap (6 * (t : Int) + v) = u := by rw [w64_id] <;> omega
        have w3' : IntKind.i64.wrap (6 * (x.1 : Int)) = 6 * (x.1 : Int) := by rw [w64_id] <;> omega
        have w4' : IntKind.i64.wrap (6 * (x.1 : Int) + r) = w := by rw [w64_id] <;> omega
        have hpA := hPv _ hA4
        have hpB := hPv _ d2
        have eA : ((edA v : Nat) : Int) < 4 := by omega
        have eB : ((edB v : Nat) : Int) < 4 := by omega
        have hmg := merged_ hE (N := N) (u := u) (w := w) hat' (by rw [hCl.len, hN]) (by omega) (by omega) (by omega)
        simp [g1, g3, g4, g5, g6, g7, hv', rd_def, b3, hwv, DC_of hen, hj3, c1, c2, hpA, hpB, eA, eB, DC_of hed, w1', w2', w3', w4', bit]
        refine hmg.imp ?_
        rintro o ⟨h4, f4⟩ ⟨cls', rfl, hf4, hl4, hk4, hat4, hlen4, hc4⟩
        simp only at hf4 hl4 hk4 hat4
        have hjo : joined ⟨h3, h0.length⟩ ⟨h4, f4⟩ = ⟨h4, h0.length⟩ := by
         simp only [joined]
         split
         ·congr 1; omega
         ·rfl
        simp [hjo, g1, g4, g5, g6, g7, hwv, bit]
        refine ⟨kk2 - 1, by omega, v + 1, by omega, ⟨by omega, fun b o hb hn => hk4 _ _ (hk3 _ _ hb hn) hn⟩, cls', hat4, hCl.merge hU (by omega) hf hv hnw (by omega) (fun a ha => ?_), by omega⟩
        rw [← hu]
        exact hc4 a (by omega)
      ·have hv4 : v = 6 := by omega
       subst hv4
       simp [g1, g3, g4, g5, g6, g7, hwf]
       refine ⟨kk' - 1, by omega, f + 1, by omega, fun b o hb => hk3 b o (s2 b o (hsub b o hb)) ?_, cls, hat, by rw [show (t * 4 + (f + 1)) * 6 = (t * 4 + f) * 6 + 6 by omega]; exact hCl, by omega⟩
       have := (List.getElem?_eq_some_iff.1 hb).1
       omega
     ·exact ⟨0, h2, cls, by omega, rfl, ⟨rfl, fun b o hb _ => hb⟩, s2 _ _ hat, hCl, by simp [g1, g3, g4, g5]⟩
    ·have hf4 : f = 4 := by omega
     subst hf4
     simp [g1, g3, g4, g5, hwt]
     exact ⟨kk - 1, by omega, t + 1, by omega, hsub, cls, hat, by rw [show (t + 1) * 24 = (t * 4 + 4) * 6 by omega]; exact hCl, by omega⟩
   ·exact ⟨0, h, cls, by omega, rfl, hsub, hat, by rw [show (t * 4 + 0) * 6 = t * 24 by omega]; exact hCl, by simp [g1, g3, g4]⟩
  ·have htM : t * 24 = 24 * M := by omega
   rw [htM] at hCl
   have hnum := numbered_ hE hat (N := N) (by rw [hCl.len, hN]) (by omega)
   simp [g1, g3, g4, rd_def, hb, ht]
   refine hnum.imp ?_
   rintro o ⟨h3, f3⟩ ⟨ys, cnt, rfl, hf3, hs3, hat3, hI, hcnt⟩
   simp only at hf3 hs3 hat3
   have hsl := hsub.len
   simp [joined_fl, hf3, endK_ret]
   unfold pairQ back
   rw [if_neg (by simp [Out.scalar, scalar, flat1, flat])]
   exact ⟨h.length, rfl, by omega, Nat.le_refl _, sB.trans (hsub.trans hs3), cls, ys, hat3, cnt, hI, hcnt, fun a b ha hb' => hCl.fin hU (by omega) (by omega)⟩
 ·exact ⟨0, h1, cls0, by omega, rfl, hs1, hat1, hCl0, by simp⟩
end Go.Proofs.Ytjlkndkedknocaa
namespace Go.Proofs.Ytjlkndkedknocaa
open Go Go.Ai
attribute [local instance] Classical.propDecidable
theorem sN_zero {f : Nat → Int} : ∀ {n : Nat}, (∀ i, i < n → f i = 0) → sumN f n = 0 := by
 intro n
 induction n with
 | zero => intro _; rfl
 | succ n ih => intro h; simp only [sumN]; rw [ih fun i hi => h i (by omega), h n (by omega)]; rfl
theorem sN_one {f : Nat → Int} {v : Nat} : ∀ {n : Nat}, v < n → (∀ i, i < n → i ≠ v → f i = 0) → sumN f n = f v := by
 intro n
 induction n with
 | zero => intro h; omega
 | succ n ih =>
  intro h hz
  simp only [sumN]
  by_cases e : v = n
  ·subst e
   rw [sN_zero fun i hi => hz i (by omega) (by omega)]; omega
  ·rw [ih (by omega) fun i hi hn => hz i (by omega) hn, hz n (by omega) (by omega)]; omega
theorem sN_split (f : Nat → Int) (a : Nat) : ∀ b, sumN f (a + b) = sumN f a + sumN (fun i => f (a + i)) b := by
 intro b
 induction b with
 | zero => simp [sumN]
 | succ b ih => rw [← Nat.add_assoc]; simp only [sumN]; rw [ih]; omega
theorem sN_block (f : Nat → Int) (k : Nat) : ∀ m, sumN f (k * m) = sumN (fun j => sumN (fun i => f (k * j + i)) k) m := by
 intro m
 induction m with
 | zero => rfl
 | succ m ih => rw [Nat.mul_succ, sN_split, ih]; rfl
theorem sN_const (z : Int) : ∀ n : Nat, sumN (fun _ => z) n = n * z := by
 intro n
 induction n with
 | zero => simp [sumN]
 | succ n ih => simp only [sumN]; rw [ih]; push_cast; rw [Int.add_mul]; omega
theorem cls_sum {N K : Nat} {cls : Nat → Nat} {Tr : Nat → Prop} {F F' : Nat → Int} (hlt : ∀ u, u < N → cls u < K) (hon : ∀ k, k < K → ∃ u, u < N ∧ cls u = k) (hT : ∀ u, u < N → ∃ w, w < N ∧ Tr w ∧ cls w = cls u) (hU : ∀ u w, u < N → w < N → Tr u → Tr w → cls u = cls w → u = w) (hF : ∀ u, u < N → Tr u → F' (cls u) = F u) :
  sumN F' K = sumN (fun u => if Tr u then F u else 0) N := by
 have h1 : sumN F' K = sumN (fun k => sumN (fun u => if Tr u ∧ cls u = k then F u else 0) N) K := sumN_congr fun k hk => by
  obtain ⟨u, hu, rfl⟩ := hon k hk
  obtain ⟨w, hw, tw, e⟩ := hT u hu
  rw [sN_one (v := w) hw fun i hi hn => if_neg fun hc => hn (hU i w hi hw hc.1 tw (by rw [hc.2, e])), if_pos ⟨tw, e⟩, ← hF w hw tw, e]
 rw [h1, sumN_swap]
 refine sumN_congr fun u hu => ?_
 by_cases tu : Tr u
 ·rw [if_pos tu, sN_one (v := cls u) (hlt u hu) fun k _ hn => if_neg fun hc => hn hc.2.symm, if_pos ⟨tu, rfl⟩]
 ·rw [if_neg tu]
  exact sN_zero fun k _ => if_neg fun hc => tu hc.1
theorem half_sum {K : Nat} {τ : Nat → Nat} {A : Nat → Int} (h1 : ∀ x, x < K → τ x < K ∧ τ (τ x) = x ∧ τ x ≠ x ∧ A (τ x) = A x) :
  2 * sumN (fun x => if x < τ x then A x else 0) K = sumN A K := by
 have e1 : sumN (fun x => if x < τ x then A x else 0) K = sumN (fun x => if τ x < x then A x else 0) K := by
  have a1 : sumN (fun x => if x < τ x then A x else 0) K = sumN (fun x => sumN (fun y => if y = τ x ∧ x < y then A x else 0) K) K := sumN_congr fun x hx => by
   obtain ⟨t1, t2, t3, t4⟩ := h1 x hx
   rw [sN_one (v := τ x) t1 fun i _ hn => if_neg fun hc => hn hc.1]
   by_cases c : x < τ x
   ·rw [if_pos c, if_pos ⟨rfl, c⟩]
   ·rw [if_neg c, if_neg fun hc => c hc.2]
  rw [a1, sumN_swap]
  refine sumN_congr fun y hy => ?_
  obtain ⟨t1, t2, t3, t4⟩ := h1 y hy
  have hz : ∀ i, i < K → i ≠ τ y → (if y = τ i ∧ i < y then A i else 0) = 0 := fun i hi hn => if_neg fun hc => by
   have := (h1 i hi).2.1
   rw [← hc.1] at this
   exact hn this.symm
  rw [sN_one (f := fun i => if y = τ i ∧ i < y then A i else 0) (v := τ y) t1 hz]
  by_cases c : τ y < y
  ·rw [if_pos c, if_pos ⟨t2.symm, c⟩, t4]
  ·rw [if_neg c, if_neg fun hc => c hc.2]
 have e2 : sumN A K = sumN (fun x => (if x < τ x then A x else 0) + (if τ x < x then A x else 0)) K := sumN_congr fun x hx => by
  obtain ⟨t1, t2, t3, t4⟩ := h1 x hx
  by_cases c : x < τ x
  ·rw [if_pos c, if_neg (by omega)]; omega
  ·rw [if_neg c, if_pos (by omega)]; omega
 rw [e2, sumN_add, ← e1]; omega
end Go.Proofs.Ytjlkndkedknocaa
namespace Go.Proofs.Ytjlkndkedknocaa
open Go Go.Ai
attribute [local instance] Classical.propDecidable
def inQ (G : Dg) (c r : Nat) : Nat := if r = 0 then 0 else if outB (G.s c) 1 = false then 1 else 3
theorem inQ_ok {G : Dg} (hG : GoodG G) {c r : Nat} (hc : c < G.n) (hr : r < 2) : inQ G c r < 4 ∧ inQ G c r % 2 = r ∧ outB (G.s c) (inQ G c r) = false := by
 unfold inQ
 have h1 := hG.sign c hc
 by_cases e : r = 0
 ·rw [if_pos e]
  refine ⟨by omega, by omega, ?_⟩
  rcases h1 with h1 | h1 <;> rw [h1] <;> rfl
 ·rw [if_neg e]
  have hf := outB_flip (q := 1) h1 (by omega)
  by_cases c1 : outB (G.s c) 1 = false
  ·rw [if_pos c1]; exact ⟨by omega, by omega, c1⟩
  ·rw [if_neg c1]
   refine ⟨by omega, by omega, ?_⟩
   have : outB (G.s c) 1 = true := by simpa using c1
   rw [this] at hf
   exact hf
theorem inQ_eq {G : Dg} (hG : GoodG G) {c q : Nat} (hc : c < G.n) (hq : q < 4) (ho : outB (G.s c) q = false) : q = inQ G c (q % 2) := by
 obtain ⟨h1, h2, h3⟩ := inQ_ok hG hc (show q % 2 < 2 by omega)
 have hf := outB_flip (hG.sign c hc) hq
 rw [ho] at hf
 by_cases e : q = inQ G c (q % 2)
 ·exact e
 ·have : (q + 2) % 4 = inQ G c (q % 2) := by omega
  rw [this, h3] at hf
  cases hf
theorem head_in {G : Dg} (hG : GoodG G) {a : Nat} (ha : a < 2 * G.n) : G.T a 3 = inQ G (G.T a 2) (G.T a 3 % 2) := by
 obtain ⟨_, _, t2, t3, _, _, _⟩ := hG.T a ha
 exact inQ_eq hG t2 t3 (hG.dir a ha).2
theorem in_head {G : Dg} (hG : GoodG G) {c q : Nat} (hc : c < G.n) (hq : q < 4) (ho : outB (G.s c) q = false) : G.T (G.X c q) 2 = c ∧ G.T (G.X c q) 3 = q := by
 rcases hG.cover c q hc hq with ⟨h1, h2⟩ | ⟨h1, h2⟩
 ·have := (hG.dir _ (hG.X c q hc hq)).1
  rw [← h1, ← h2, ho] at this; cases this
 ·exact ⟨h1.symm, h2.symm⟩
theorem out_tail {G : Dg} (hG : GoodG G) {c q : Nat} (hc : c < G.n) (hq : q < 4) (ho : outB (G.s c) q = true) : G.T (G.X c q) 0 = c ∧ G.T (G.X c q) 1 = q := by
 rcases hG.cover c q hc hq with ⟨h1, h2⟩ | ⟨h1, h2⟩
 ·exact ⟨h1.symm, h2.symm⟩
 ·have := (hG.dir _ (hG.X c q hc hq)).2
  rw [← h1, ← h2, ho] at this; cases this
theorem oth_tail {G : Dg} (hG : GoodG G) {a : Nat} (ha : a < 2 * G.n) : oth G (G.T a 0, G.T a 1) = (G.T a 2, G.T a 3) := by
 obtain ⟨_, _, _, _, x1, _, _⟩ := hG.T a ha
 unfold oth
 simp only [x1, and_self, if_true]
def HitR (G : Dg) (r a k : Nat) : Prop := G.T (itr (nx G) a k) 3 % 2 = r ∧ ∀ j, j < k → G.T (itr (nx G) a j) 3 % 2 ≠ r
theorem HitR.uniq {G : Dg} {r a k k' : Nat} (h : HitR G r a k) (h' : HitR G r a k') : k = k' := by
 rcases Nat.lt_trichotomy k k' with e | e | e
 ·exact absurd h.1 (h'.2 k e)
 ·exact e
 ·exact absurd h'.1 (h.2 k' e)
noncomputable def stC (G : Dg) (r a : Nat) : Nat := if h : ∃ k, HitR G r a k then G.T (itr (nx G) a h.choose) 2 else 0
theorem stC_of {G : Dg} {r a k : Nat} (h : HitR G r a k) : stC G r a = G.T (itr (nx G) a k) 2 := by
 unfold stC
 have hx : ∃ k, HitR G r a k := ⟨k, h⟩
 rw [dif_pos hx, hx.choose_spec.uniq h]
theorem stC_stop {G : Dg} {r a : Nat} (h : G.T a 3 % 2 = r) : stC G r a = G.T a 2 := stC_of (k := 0) ⟨h, fun j hj => by omega⟩
theorem itr_front (f : Nat → Nat) (a : Nat) : ∀ k, itr f a (k + 1) = itr f (f a) k := by
 intro k
 rw [Nat.add_comm, itr_add]; rfl
theorem stC_pass {G : Dg} {r a : Nat} (h : G.T a 3 % 2 ≠ r) (hx : ∃ k, HitR G r (nx G a) k) : stC G r (nx G a) = stC G r a := by
 obtain ⟨k, hk⟩ := hx
 rw [stC_of hk, stC_of (k := k + 1) ⟨by rw [itr_front]; exact hk.1, fun j hj => ?_⟩, itr_front]
 match j with
 | 0 => exact h
 | j + 1 => rw [itr_front]; exact hk.2 j (by omega)
theorem hit_of {G : Dg} {r a : Nat} : ∀ t, G.T (itr (nx G) a t) 3 % 2 = r → ∃ k, HitR G r a k := by
 intro t h
 obtain ⟨m, h1, h2⟩ := leastP (P := fun k => G.T (itr (nx G) a k) 3 % 2 = r) ⟨t, h⟩
 exact ⟨m, h1, h2⟩
theorem mix_hit {G : Dg} (hG : GoodG G) (hM : MixG G) {r a : Nat} (hr : r < 2) (ha : a < 2 * G.n) : ∃ k, HitR G r a k := by
 have hP := nx_perm hG
 have key : ∀ q, q < 4 → q % 2 = r → (∃ c, c < G.n ∧ SameC G (G.X c q) a) → ∃ k, HitR G r a k := by
  rintro q hq hqr ⟨c, hc, hs⟩
  have hX := hG.X c q hc hq
  obtain ⟨t, ht⟩ := hP.symm hX hs
  cases ho : outB (G.s c) q with
  | false =>
   obtain ⟨i1, i2⟩ := in_head hG hc hq ho
   exact hit_of t (by rw [ht, i2]; exact hqr)
  | true =>
   have hq2 : (q + 2) % 4 < 4 := Nat.mod_lt _ (by omega)
   have hf := outB_flip (hG.sign c hc) hq
   rw [ho] at hf
   obtain ⟨i1, i2⟩ := in_head hG hc hq2 hf
   have hX2 := hG.X c _ hc hq2
   have hn : nx G (G.X c ((q + 2) % 4)) = G.X c q := by
    have := nx_at hG hc hq2 hf
    rwa [show ((q + 2) % 4 + 2) % 4 = q by omega] at this
   have hs2 : SameO (nx G) (G.X c ((q + 2) % 4)) a := SameO.trans ⟨1, hn⟩ hs
   obtain ⟨t2, ht2⟩ := hP.symm hX2 hs2
   exact hit_of t2 (by rw [ht2, i2]; omega)
 obtain ⟨k0, k1⟩ := hM.2.2.2 a ha
 rcases (show r = 0 ∨ r = 1 by omega) with rfl | rfl
 ·exact key 0 (by omega) rfl k0
 ·exact key 1 (by omega) rfl k1
structure SideR (G : Dg) (r : Nat) (R : Nat → Nat → Prop) (nd : Nat → Nat → Bool → Nat) : Prop where
 refl : ∀ x, R x x
 trans : ∀ {x y z}, R x y → R y z → R x z
 across : ∀ c q b, c < G.n → q < 4 → R (nd c q b) (nd (oth G (c, q)).1 (oth G (c, q)).2 (!b))
 stop : ∀ c q b, c < G.n → q < 4 → q % 2 = r → R (nd c q b) (nd c q (!b))
 pass : ∀ c q b, c < G.n → q < 4 → q % 2 ≠ r → R (nd c q b) (nd c ((q + 2) % 4) (!b))
theorem SideR.run {G : Dg} (hG : GoodG G) {r : Nat} {R : Nat → Nat → Prop} {nd : Nat → Nat → Bool → Nat} (h : SideR G r R nd) : ∀ k a b, a < 2 * G.n → HitR G r a k → R (nd (G.T a 2) (G.T a 3) b) (nd (stC G r a) (inQ G (stC G r a) r) true) := by
 intro k
 induction k with
 | zero =>
  intro a b ha hk
  obtain ⟨_, _, t2, t3, _, _, _⟩ := hG.T a ha
  have h0 : G.T a 3 % 2 = r := hk.1
  have hh := head_in hG ha
  rw [h0] at hh
  rw [stC_stop h0, ← hh]
  cases b with
  | true => exact h.refl _
  | false => exact h.stop _ _ false t2 t3 h0
 | succ k ih =>
  intro a b ha hk
  obtain ⟨_, _, t2, t3, _, _, _⟩ := hG.T a ha
  have h0 : G.T a 3 % 2 ≠ r := hk.2 0 (by omega)
  obtain ⟨n1, n2, n3⟩ := nx_begin hG ha
  have hk' : HitR G r (nx G a) k := ⟨by rw [← itr_front]; exact hk.1, fun j hj => by rw [← itr_front]; exact hk.2 (j + 1) (by omega)⟩
  have e1 := ih (nx G a) b n1 hk'
  rw [stC_pass h0 ⟨k, hk'⟩] at e1
  have e2 := h.pass _ _ b t2 t3 h0
  have e3 := h.across (G.T a 2) ((G.T a 3 + 2) % 4) (!b) t2 (Nat.mod_lt _ (by omega))
  have ho := oth_tail hG n1
  rw [n2, n3] at ho
  rw [ho, Bool.not_not] at e3
  exact h.trans e2 (h.trans e3 e1)
theorem SideR.all {G : Dg} (hG : GoodG G) (hM : MixG G) {r : Nat} (hr : r < 2) {R : Nat → Nat → Prop} {nd : Nat → Nat → Bool → Nat} (h : SideR G r R nd) {c q : Nat} (b : Bool) (hc : c < G.n) (hq : q < 4) : R (nd c q b) (nd (stC G r (G.X c q)) (inQ G (stC G r (G.X c q)) r) true) := by
 have ha := hG.X c q hc hq
 obtain ⟨k, hk⟩ := mix_hit hG hM hr ha
 cases ho : outB (G.s c) q with
 | false =>
  obtain ⟨i1, i2⟩ := in_head hG hc hq ho
  have := h.run hG k _ b ha hk
  rwa [i1, i2] at this
 | true =>
  obtain ⟨i1, i2⟩ := out_tail hG hc hq ho
  have h1 := h.run hG k _ (!b) ha hk
  have h2 := h.across c q b hc hq
  have h3 := oth_tail hG ha
  rw [i1, i2] at h3
  rw [h3] at h2
  exact h.trans h2 h1
theorem stC_across {G : Dg} (hG : GoodG G) (hM : MixG G) {r c q : Nat} (hr : r < 2) (hc : c < G.n) (hq : q < 4) (hn : q % 2 ≠ r) : stC G r (G.X c ((q + 2) % 4)) = stC G r (G.X c q) := by
 have key : ∀ q, q < 4 → q % 2 ≠ r → outB (G.s c) q = false → stC G r (G.X c ((q + 2) % 4)) = stC G r (G.X c q) := fun q hq hn ho => by
  obtain ⟨i1, i2⟩ := in_head hG hc hq ho
  have e := nx_at hG hc hq ho
  have ha := hG.X c q hc hq
  rw [← e]
  exact stC_pass (by rw [i2]; exact hn) (mix_hit hG hM hr (nx_begin hG ha).1)
 cases ho : outB (G.s c) q with
 | false => exact key q hq hn ho
 | true =>
  have hf := outB_flip (hG.sign c hc) hq
  rw [ho] at hf
  have := key ((q + 2) % 4) (Nat.mod_lt _ (by omega)) (by omega) hf
  rw [show ((q + 2) % 4 + 2) % 4 = q by omega] at this
  exact this.symm
theorem stC_in {G : Dg} (hG : GoodG G) {r c : Nat} (hr : r < 2) (hc : c < G.n) : stC G r (G.X c (inQ G c r)) = c := by
 obtain ⟨h1, h2, h3⟩ := inQ_ok hG hc hr
 obtain ⟨i1, i2⟩ := in_head hG hc h1 h3
 rw [stC_stop (by rw [i2]; exact h2), i1]
theorem stC_lt {G : Dg} (hG : GoodG G) (hM : MixG G) {r a : Nat} (hr : r < 2) (ha : a < 2 * G.n) : stC G r a < G.n := by
 obtain ⟨k, hk⟩ := mix_hit hG hM hr ha
 rw [stC_of hk]
 exact (hG.T _ ((nx_perm hG).itr_lt ha k)).2.2.1
end Go.Proofs.Ytjlkndkedknocaa
namespace Go.Proofs.Ytjlkndkedknocaa
open Go Go.Ai
attribute [local instance] Classical.propDecidable
def ndT (c q : Nat) (b : Bool) : Nat := 4 * c + (if b then q else (q + 3) % 4)
def ndE (r c q : Nat) (b : Bool) : Nat := 6 * ndT c q b + edN (1 - q % 2) (2 + r)
theorem ndT_lt {n c q : Nat} {b : Bool} (hc : c < n) (hq : q < 4) : ndT c q b < 4 * n := by unfold ndT; split <;> omega
theorem ndT_div {c q : Nat} {b : Bool} (hq : q < 4) : ndT c q b / 4 = c := by unfold ndT; split <;> omega
theorem outE_in {G : Dg} {c p p' f : Nat} (hp : p < 4) (h : (f = 2 + p % 2 ∧ p' = (p + 1) % 4) ∨ (f = 3 - p % 2 ∧ p' = (p + 3) % 4)) : outE G (4 * c + p) f = (4 * c + p', false) := by
 unfold outE
 rw [show (4 * c + p) % 4 = p by omega, show (4 * c + p) / 4 = c by omega, if_pos (by omega)]
 rcases h with ⟨h1, h2⟩ | ⟨h1, h2⟩
 ·rw [if_pos (by omega), h2]
 ·rw [if_neg (by omega), h2]
theorem outE_turn3 {G : Dg} {r c q : Nat} (b : Bool) (hr : r < 2) (hq : q < 4) : outE G (ndT c q b) (3 - r) = (ndT c (if q % 2 = r then q else (q + 2) % 4) (!b), false) := by
 unfold ndT
 cases b with
 | true =>
  simp only [if_true, Bool.not_true, Bool.false_eq_true, if_false]
  by_cases e : q % 2 = r
  ·rw [if_pos e]
   exact outE_in hq (.inr ⟨by omega, rfl⟩)
  ·rw [if_neg e]
   exact outE_in hq (.inl ⟨by omega, by omega⟩)
 | false =>
  simp only [if_true, Bool.not_false, Bool.false_eq_true, if_false]
  by_cases e : q % 2 = r
  ·rw [if_pos e]
   exact outE_in (Nat.mod_lt _ (by omega)) (.inl ⟨by omega, by omega⟩)
  ·rw [if_neg e]
   exact outE_in (Nat.mod_lt _ (by omega)) (.inr ⟨by omega, by omega⟩)
theorem outE_arc {G : Dg} {c q : Nat} (b : Bool) (hq : q < 4) : outE G (ndT c q b) (q % 2) = (ndT (oth G (c, q)).1 (oth G (c, q)).2 (!b), !decide (q % 2 = (oth G (c, q)).2 % 2)) := by
 unfold ndT
 cases b with
 | true => exact outE_own G (e := (c, q)) hq rfl
 | false => exact outE_next G (e := (c, q)) hq rfl
theorem pm_arc (x y : Nat) : pm (!decide (x % 2 = y % 2)) (1 - x % 2) = 1 - y % 2 ∧ pm (!decide (x % 2 = y % 2)) 2 = 2 ∧ pm (!decide (x % 2 = y % 2)) 3 = 3 ∧ pm (!decide (x % 2 = y % 2)) (x % 2) = y % 2 := by
 rcases (show x % 2 = 0 ∨ x % 2 = 1 by omega) with e | e <;> rcases (show y % 2 = 0 ∨ y % 2 = 1 by omega) with e2 | e2 <;> rw [e, e2] <;> exact ⟨rfl, rfl, rfl, rfl⟩
theorem pm_pole (sw : Bool) {r : Nat} (hr : r < 2) : pm sw (2 + r) = 2 + r := by
 rcases (show r = 0 ∨ r = 1 by omega) with rfl | rfl <;> cases sw <;> rfl
theorem ndE_ends {r c q : Nat} {b : Bool} (hr : r < 2) : ndE r c q b / 6 = ndT c q b ∧ edA (ndE r c q b % 6) = 1 - q % 2 ∧ edB (ndE r c q b % 6) = 2 + r ∧ edN (1 - q % 2) (2 + r) < 6 := by
 obtain ⟨h1, h2, h3⟩ := edN_of (1 - q % 2) (by omega) (2 + r) (by omega) (by omega)
 obtain ⟨x, hx⟩ : ∃ x, x = edN (1 - q % 2) (2 + r) := ⟨_, rfl⟩
 unfold ndE
 rw [← hx] at h1 h2 h3 ⊢
 rw [show (6 * ndT c q b + x) / 6 = ndT c q b by omega, show (6 * ndT c q b + x) % 6 = x by omega]
 exact ⟨rfl, by omega, by omega, h1⟩
theorem ndE_arc {G : Dg} {r c q : Nat} (b : Bool) (hr : r < 2) (hq : q < 4) : nbK (outE G) (ndE r c q b) (q % 2) = some (ndE r (oth G (c, q)).1 (oth G (c, q)).2 (!b)) := by
 obtain ⟨h1, h2, h3, h4⟩ := ndE_ends (c := c) (q := q) (b := b) hr
 obtain ⟨k1, k2, k3, _⟩ := pm_arc q (oth G (c, q)).2
 unfold nbK
 rw [h1, h2, h3, outE_arc b hq, if_neg (by omega)]
 simp only [k1, pm_pole _ hr]
 rfl
theorem ndE_turn {G : Dg} {r c q : Nat} (b : Bool) (hr : r < 2) (hq : q < 4) : nbK (outE G) (ndE r c q b) (3 - r) = some (ndE r c (if q % 2 = r then q else (q + 2) % 4) (!b)) := by
 obtain ⟨h1, h2, h3, h4⟩ := ndE_ends (c := c) (q := q) (b := b) hr
 unfold nbK
 rw [h1, h2, h3, outE_turn3 b hr hq, if_neg (by omega)]
 have hpar : (if q % 2 = r then q else (q + 2) % 4) % 2 = q % 2 := by split <;> omega
 simp only [pm, Bool.false_eq_true, if_false]
 unfold ndE
 rw [hpar]
theorem ndE_none {G : Dg} {r c q f : Nat} (b : Bool) (hr : r < 2) (hq : q < 4) (hf : f < 4) (h1 : f ≠ q % 2) (h2 : f ≠ 3 - r) : nbK (outE G) (ndE r c q b) f = none := by
 obtain ⟨k1, k2, k3, k4⟩ := ndE_ends (c := c) (q := q) (b := b) hr
 unfold nbK
 rw [k2, k3, if_pos (by omega)]
theorem ndE_side {G : Dg} {r : Nat} (hr : r < 2) : SideR G r (VC (nbK (outE G))) (ndE r) where
 refl := fun x => .refl x
 trans := fun h k => h.trans k
 across := fun c q b hc hq => (VC.refl _).step (q % 2) (by omega) (ndE_arc b hr hq)
 stop := fun c q b hc hq e => (VC.refl _).step (3 - r) (by omega) (by rw [ndE_turn b hr hq, if_pos e])
 pass := fun c q b hc hq e => (VC.refl _).step (3 - r) (by omega) (by rw [ndE_turn b hr hq, if_neg e])
def plQ (p s : Nat) : Nat := if p % 2 = s then (p + 1) % 4 else p
theorem pole_edge {c p v : Nat} (hp : p < 4) (hv : v < 6) (h0 : v ≠ 0) (h5 : v ≠ 5) : ∃ b, 6 * (4 * c + p) + v = ndE (edB v - 2) c (plQ p (edA v)) b ∧ edB v - 2 < 2 ∧ plQ p (edA v) < 4 ∧ edA v < 2 ∧ (plQ p (edA v)) % 2 = 1 - edA v := by
 have e1 := ed_lt v hv
 have hA : edA v < 2 ∧ 2 ≤ edB v := by
  rcases (show v = 1 ∨ v = 2 ∨ v = 3 ∨ v = 4 by omega) with rfl | rfl | rfl | rfl <;> exact ⟨by decide, by decide⟩
 have hpl : (plQ p (edA v)) % 2 = 1 - edA v := by unfold plQ; split <;> omega
 refine ⟨decide (p % 2 ≠ edA v), ?_, by omega, by unfold plQ; split <;> omega, hA.1, hpl⟩
 unfold ndE
 rw [hpl, show 1 - (1 - edA v) = edA v by omega, show 2 + (edB v - 2) = edB v by omega, e1.2.2]
 unfold ndT plQ
 by_cases e : p % 2 = edA v
 ·simp only [e, if_true, ne_eq, not_true_eq_false, decide_false, Bool.false_eq_true, if_false]; omega
 ·simp only [e, if_false, ne_eq, not_false_eq_true, decide_true, if_true]
noncomputable def canE (G : Dg) (u : Nat) : Nat :=
 if u % 6 = 0 then 24 * (u / 24)
 else if u % 6 = 5 then 6 * rR0 G (u / 6) + 5
 else ndE (edB (u % 6) - 2) (stC G (edB (u % 6) - 2) (G.X (u / 24) (plQ (u / 6 % 4) (edA (u % 6))))) (inQ G (stC G (edB (u % 6) - 2) (G.X (u / 24) (plQ (u / 6 % 4) (edA (u % 6))))) (edB (u % 6) - 2)) true
theorem canE_pole {G : Dg} (hG : GoodG G) (hM : MixG G) {r c q : Nat} (b : Bool) (hr : r < 2) (hc : c < G.n) (hq : q < 4) : canE G (ndE r c q b) = ndE r (stC G r (G.X c q)) (inQ G (stC G r (G.X c q)) r) true := by
 obtain ⟨h1, h2, h3, h4⟩ := ndE_ends (c := c) (q := q) (b := b) hr
 have hmod : ndE r c q b % 6 = edN (1 - q % 2) (2 + r) := by unfold ndE; omega
 have hne : edN (1 - q % 2) (2 + r) ≠ 0 ∧ edN (1 - q % 2) (2 + r) ≠ 5 := by
  rcases (show q % 2 = 0 ∨ q % 2 = 1 by omega) with e | e <;> rcases (show r = 0 ∨ r = 1 by omega) with rfl | rfl <;> rw [e] <;> exact ⟨by decide, by decide⟩
 have h24 : ndE r c q b / 24 = c := by
  have := ndT_div (c := c) (b := b) hq
  omega
 unfold canE
 rw [if_neg (by omega), if_neg (by omega), h1, h2, h3, h24, show 2 + r - 2 = r by omega]
 have hpl : plQ (ndT c q b % 4) (1 - q % 2) = q ∨ False := by
  left
  unfold plQ ndT
  cases b with
  | true =>
   simp only [if_true]
   rw [if_neg (by omega)]; omega
  | false =>
   simp only [Bool.false_eq_true, if_false]
   rw [if_pos (by omega)]; omega
 rcases hpl with hpl | hpl
 ·rw [hpl]
 ·exact hpl.elim
theorem edge_plain {G : Dg} {t f v : Nat} (hv : v = 0 ∨ v = 5) (hf : f < 4) : nbK (outE G) (6 * t + v) f = if f = edA v ∨ f = edB v then none else some (6 * (outE G t f).1 + v) := by
 unfold nbK
 rw [show (6 * t + v) / 6 = t by omega, show (6 * t + v) % 6 = v by omega]
 have : edN (pm (outE G t f).2 (edA v)) (pm (outE G t f).2 (edB v)) = v := by
  rcases hv with rfl | rfl <;> cases (outE G t f).2 <;> rfl
 rw [this]
theorem strand_edge {G : Dg} {c p : Nat} (hp : p < 4) : ∀ k, VC (nbK (outE G)) (6 * (4 * c + p) + 0) (6 * (4 * c + (p + k) % 4) + 0) := by
 intro k
 induction k with
 | zero => rw [show (p + 0) % 4 = p by omega]; exact .refl _
 | succ k ih =>
  refine ih.step (2 + (p + k) % 4 % 2) (by omega) ?_
  rw [edge_plain (.inl rfl) (by omega), if_neg (by show ¬ (2 + (p + k) % 4 % 2 = 0 ∨ 2 + (p + k) % 4 % 2 = 1); omega), outE_in (p' := (p + (k + 1)) % 4) (Nat.mod_lt _ (by omega)) (.inl ⟨rfl, by omega⟩)]
theorem region_edge {G : Dg} {x : Nat × Nat} (hx : x.2 < 4) : nbK (outE G) (6 * idP x + 5) (x.2 % 2) = some (6 * idP (nxt G x) + 5) := by
 rw [edge_plain (.inr rfl) (by omega), if_neg (by show ¬ (x.2 % 2 = 2 ∨ x.2 % 2 = 3); omega)]
 show some (6 * (outE G (4 * x.1 + x.2) (x.2 % 2)).1 + 5) = _
 rw [outE_own G hx rfl]
 rfl
theorem region_same {G : Dg} (hG : GoodG G) {x y : Nat × Nat} (hx : InV G x) (h : SameR G x y) : VC (nbK (outE G)) (6 * idP x + 5) (6 * idP y + 5) := by
 obtain ⟨t, rfl⟩ := h
 have key : ∀ t, InV G (orb G x t) ∧ VC (nbK (outE G)) (6 * idP x + 5) (6 * idP (orb G x t) + 5) := by
  intro t
  induction t with
  | zero => exact ⟨hx, .refl _⟩
  | succ t ih =>
   obtain ⟨h1, h2⟩ := ih
   have ho := (oth_spec hG h1).1
   exact ⟨hG.inV (x := nxt G (orb G x t)) ho.1 (Nat.mod_lt _ (by omega)), h2.step ((orb G x t).2 % 2) (by omega) (region_edge h1.2.1)⟩
 exact (key t).2
theorem canE_conn {G : Dg} (hG : GoodG G) (hM : MixG G) {u : Nat} (hu : u < 24 * G.n) : VC (nbK (outE G)) u (canE G u) := by
 obtain ⟨c, hc⟩ : ∃ c, c = u / 24 := ⟨_, rfl⟩
 obtain ⟨p, hp⟩ : ∃ p, p = u / 6 % 4 := ⟨_, rfl⟩
 obtain ⟨v, hv⟩ : ∃ v, v = u % 6 := ⟨_, rfl⟩
 have hu' : u = 6 * (4 * c + p) + v := by omega
 have hcn : c < G.n := by omega
 have hp4 : p < 4 := by omega
 by_cases h0 : v = 0
 ·unfold canE
  rw [← hv, if_pos h0, ← hc, hu', h0]
  have := strand_edge (G := G) (c := c) hp4 (4 - p)
  rwa [show (p + (4 - p)) % 4 = 0 by omega, show 6 * (4 * c + 0) + 0 = 24 * c by omega] at this
 ·by_cases h5 : v = 5
  ·unfold canE
   rw [← hv, if_neg h0, if_pos h5]
   have hj : u / 6 < 4 * G.n := by omega
   have hl := rR0_le (G := G) (u / 6)
   have h1 := (rR0_same (G := G) hj).1
   have hi := endOf_inV hG (show rR0 G (u / 6) < 4 * G.n by omega)
   have h2 := region_same hG (endOf_inV hG hj) (SameR.symm hG hi h1)
   rw [id_endOf, id_endOf] at h2
   rwa [show 6 * (u / 6) + 5 = u by omega] at h2
  ·obtain ⟨b, e1, e2, e3, e4, e5⟩ := pole_edge (c := c) hp4 (by omega : v < 6) h0 h5
   have e6 := (ndE_side (G := G) e2).all hG hM e2 b hcn e3
   rw [hu', e1, canE_pole hG hM b e2 hcn e3]
   exact e6
theorem canE_step {G : Dg} (hG : GoodG G) (hM : MixG G) {u f w : Nat} (hu : u < 24 * G.n) (hf : f < 4) (h : nbK (outE G) u f = some w) : canE G w = canE G u := by
 obtain ⟨c, hc⟩ : ∃ c, c = u / 24 := ⟨_, rfl⟩
 obtain ⟨p, hp⟩ : ∃ p, p = u / 6 % 4 := ⟨_, rfl⟩
 obtain ⟨v, hv⟩ : ∃ v, v = u % 6 := ⟨_, rfl⟩
 have hu' : u = 6 * (4 * c + p) + v := by omega
 have hcn : c < G.n := by omega
 have hp4 : p < 4 := by omega
 by_cases h0 : v = 0
 ·subst h0
  rw [hu', edge_plain (.inl rfl) hf] at h
  split at h
  ·cases h
  ·rename_i hne
   have hf2 : 2 ≤ f := by
    have : ¬ (f = 0 ∨ f = 1) := hne
    omega
   obtain rfl := Option.some.inj h
   obtain ⟨p', hp', he⟩ : ∃ p', p' < 4 ∧ outE G (4 * c + p) f = (4 * c + p', false) := by
    by_cases e : f = 2 + p % 2
    ·exact ⟨_, Nat.mod_lt _ (by omega), outE_in hp4 (.inl ⟨e, rfl⟩)⟩
    ·exact ⟨_, Nat.mod_lt _ (by omega), outE_in hp4 (.inr ⟨by omega, rfl⟩)⟩
   rw [he]
   unfold canE
   simp only
   rw [if_pos (by omega), if_pos (by omega)]
   omega
 ·by_cases h5 : v = 5
  ·subst h5
   have hu5 : u = 6 * (4 * c + p) + 5 := hu'
   rw [hu5, edge_plain (.inr rfl) hf] at h
   split at h
   ·cases h
   ·rename_i hne
    have hf2 : f < 2 := by
     have : ¬ (f = 2 ∨ f = 3) := hne
     omega
    obtain rfl := Option.some.inj h
    obtain ⟨s1, _⟩ := outE_sym hG (t := 4 * c + p) (f := f) (by omega) hf
    obtain ⟨w, hw⟩ : ∃ w, w = (outE G (4 * c + p) f).1 := ⟨_, rfl⟩
    rw [← hw] at s1
    have hreg : rR0 G w = rR0 G (4 * c + p) := by
     refine (rR0_iff hG s1 (by omega)).2 ?_
     show SameR G (endOf w) (endOf (4 * c + p))
     have hE1 : endOf (4 * c + p) = (c, p) := endOf_id (x := (c, p)) hp4
     rw [hE1]
     obtain ⟨q, hq⟩ : ∃ q, q = if f = p % 2 then p else (p + 1) % 4 := ⟨_, rfl⟩
     have hq4 : q < 4 := by rw [hq]; split <;> omega
     have hcq := hG.inV (x := (c, q)) hcn hq4
     obtain ⟨o1, o2, o3⟩ := oth_spec hG hcq
     by_cases e : f = p % 2
     ·rw [if_pos e] at hq
      rw [hq] at o1 hcq
      have hw2 : w = idP (nxt G (c, p)) := by rw [hw, e, outE_own G (e := (c, p)) hp4 rfl]; rfl
      rw [hw2, endOf_id (Nat.mod_lt _ (by omega))]
      exact SameR.symm hG hcq (SameR.step G _)
     ·rw [if_neg e] at hq
      have hn := outE_next G (e := (c, q)) hq4 rfl
      have hqq : (q + 3) % 4 = p := by omega
      simp only at hn
      rw [hqq, show q % 2 = f by omega] at hn
      have hw2 : w = idP (oth G (c, q)) := by rw [hw, hn]; rfl
      rw [hw2, endOf_id o1.2.1]
      have h1 := SameR.step G (oth G (c, q))
      have h2 : nxt G (oth G (c, q)) = (c, p) := by
       unfold nxt
       rw [o2]
       simp only [hqq]
      rwa [h2] at h1
    unfold canE
    rw [← hw, if_neg (by omega), if_pos (by omega), if_neg (by omega), if_pos (by omega), show (6 * w + 5) / 6 = w by omega, hreg, show u / 6 = 4 * c + p by omega]
  ·obtain ⟨b, e1, e2, e3, e4, e5⟩ := pole_edge (c := c) hp4 (by omega : v < 6) h0 h5
   obtain ⟨q, hq⟩ : ∃ q, q = plQ p (edA v) := ⟨_, rfl⟩
   obtain ⟨r, hr⟩ : ∃ r, r = edB v - 2 := ⟨_, rfl⟩
   rw [← hq] at e1 e3 e5
   rw [← hr] at e1 e2
   rw [hu', e1] at h ⊢
   rw [canE_pole hG hM b e2 hcn e3]
   by_cases f1 : f = q % 2
   ·rw [f1, ndE_arc b e2 e3] at h
    obtain rfl := Option.some.inj h
    obtain ⟨o1, o2, o3⟩ := oth_spec hG (hG.inV (x := (c, q)) hcn e3)
    rw [canE_pole hG hM _ e2 o1.1 o1.2.1, o3]
   ·by_cases f2 : f = 3 - r
    ·rw [f2, ndE_turn b e2 e3] at h
     obtain rfl := Option.some.inj h
     by_cases e : q % 2 = r
     ·rw [if_pos e, canE_pole hG hM _ e2 hcn e3]
     ·rw [if_neg e, canE_pole hG hM _ e2 hcn (Nat.mod_lt _ (by omega)), stC_across hG hM e2 hcn e3 e]
    ·rw [ndE_none b e2 e3 hf f1 f2] at h
     cases h
theorem VE_lt {G : Dg} (hG : GoodG G) (hU : GlU (4 * G.n) (outE G)) {a b : Nat} (ha : a < 24 * G.n) (h : VC (nbK (outE G)) a b) : b < 24 * G.n := by
 have := VK_lt hU (a := a) (by omega) h
 omega
theorem canE_same {G : Dg} (hG : GoodG G) (hM : MixG G) (hU : GlU (4 * G.n) (outE G)) {a b : Nat} (ha : a < 24 * G.n) (h : VC (nbK (outE G)) a b) : canE G b = canE G a := by
 induction h with
 | refl => rfl
 | step f hab hf hw ih => rw [canE_step hG hM (VE_lt hG hU ha hab) hf hw, ih]
theorem canE_self {G : Dg} (hG : GoodG G) (hM : MixG G) {c p v : Nat} (hc : c < G.n) (hp : p < 4) (hv : v < 6) : canE G (6 * (4 * c + p) + v) = 6 * (4 * c + p) + v ↔ (v = 0 ∧ p = 0) ∨ (v = 3 ∧ p = 0) ∨ (v = 2 ∧ p = inQ G c 1) ∨ (v = 5 ∧ rR0 G (4 * c + p) = 4 * c + p) := by
 by_cases h0 : v = 0
 ·subst h0
  unfold canE
  rw [if_pos (by omega)]
  omega
 ·by_cases h5 : v = 5
  ·subst h5
   unfold canE
   rw [if_neg (by omega), if_pos (by omega), show (6 * (4 * c + p) + 5) / 6 = 4 * c + p by omega]
   omega
  ·obtain ⟨b, e1, e2, e3, e4, e5⟩ := pole_edge (c := c) hp hv h0 h5
   obtain ⟨q, hq⟩ : ∃ q, q = plQ p (edA v) := ⟨_, rfl⟩
   obtain ⟨r, hr⟩ : ∃ r, r = edB v - 2 := ⟨_, rfl⟩
   rw [← hq] at e1 e3 e5
   rw [← hr] at e1 e2
   have hcan : canE G (6 * (4 * c + p) + v) = ndE r (stC G r (G.X c q)) (inQ G (stC G r (G.X c q)) r) true := by rw [e1, canE_pole hG hM b e2 hc e3]
   have hX := hG.X c q hc e3
   have hCl := stC_lt hG hM e2 hX
   obtain ⟨C, hC⟩ : ∃ C, C = stC G r (G.X c q) := ⟨_, rfl⟩
   rw [← hC] at hcan hCl
   obtain ⟨i1, i2, i3⟩ := inQ_ok hG hCl e2
   have hval : ndE r C (inQ G C r) true = 6 * (4 * C + inQ G C r) + (3 - r) := by
    unfold ndE ndT
    simp only [if_true]
    rw [i2]
    rcases (show r = 0 ∨ r = 1 by omega) with rfl | rfl <;> rfl
   rw [hcan, hval]
   constructor
   ·intro e
    have a0 : 4 * C + inQ G C r = 4 * c + p ∧ v = 3 - r := by
     obtain ⟨A, hA⟩ : ∃ A, A = 4 * C + inQ G C r := ⟨_, rfl⟩
     obtain ⟨B, hB⟩ : ∃ B, B = 4 * c + p := ⟨_, rfl⟩
     rw [← hA, ← hB] at e ⊢
     clear hr hA hB
     omega
    have a1 : C = c ∧ inQ G C r = p ∧ v = 3 - r := by
     obtain ⟨a01, a02⟩ := a0
     clear hr e
     obtain ⟨y, hy⟩ : ∃ y, y = inQ G C r := ⟨_, rfl⟩
     rw [← hy] at a01 i1 ⊢
     exact ⟨by omega, by omega, a02⟩
    obtain ⟨a2, a3, a4⟩ := a1
    rcases (show r = 0 ∨ r = 1 by omega) with h | h
    ·right; left
     rw [h] at a3
     exact ⟨by omega, a3.symm⟩
    ·right; right; left
     rw [h, a2] at a3
     exact ⟨by omega, a3.symm⟩
   ·intro e
    have a1 : v = 3 - r ∧ p = inQ G c r := by
     rcases e with e | e | e | e
     ·exact absurd e.1 h0
     ·have hr0 : r = 0 := by rw [hr, e.1]; rfl
      rw [hr0]
      exact ⟨e.1, e.2⟩
     ·have hr1 : r = 1 := by rw [hr, e.1]; rfl
      rw [hr1]
      exact ⟨e.1, e.2⟩
     ·exact absurd e.1 h5
    obtain ⟨j1, j2, j3⟩ := inQ_ok hG hc e2
    have hpq : q = p := by
     have hA : edA v = 1 - r := by
      rcases (show r = 0 ∨ r = 1 by omega) with h | h <;> rw [a1.1, h] <;> rfl
     rw [hq]; unfold plQ
     rw [if_neg (by rw [a1.2, j2, hA]; omega)]
    have hCc : C = c := by
     rw [hC, hpq, a1.2]
     exact stC_in hG e2 hc
    rw [hCc, ← a1.2, a1.1]
end Go.Proofs.Ytjlkndkedknocaa
namespace Go.Proofs.Ytjlkndkedknocaa
open Go Go.Ai
attribute [local instance] Classical.propDecidable
theorem nbF_eq {G : Dg} (hG : GoodG G) {t f i : Nat} (ht : t < 4 * G.n) (hf : f < 4) (hi : i < 4) : nbF (outF G) (4 * t + i) f = if f = i then none else some (4 * (outE G t f).1 + pm (outE G t f).2 i) := by
 unfold nbF
 rw [show (4 * t + i) / 4 = t by omega, show (4 * t + i) % 4 = i by omega, outF_eq hG ht hf]
 split
 ·rfl
 ·show some ((outE G t f).1 * 4 + pm (outE G t f).2 i) = _
  rw [Nat.mul_comm]
def ndV (r c q : Nat) (b : Bool) : Nat := 4 * ndT c q b + (2 + r)
theorem ndV_side {G : Dg} (hG : GoodG G) {r : Nat} (hr : r < 2) : SideR G r (VC (nbF (outF G))) (ndV r) where
 refl := fun x => .refl x
 trans := fun h k => h.trans k
 across := fun c q b hc hq => (VC.refl _).step (q % 2) (by omega) (by
  unfold ndV
  rw [nbF_eq hG (ndT_lt hc hq) (by omega) (by omega), if_neg (by omega), outE_arc b hq]
  simp only [pm_pole _ hr])
 stop := fun c q b hc hq e => (VC.refl _).step (3 - r) (by omega) (by
  unfold ndV
  rw [nbF_eq hG (ndT_lt hc hq) (by omega) (by omega), if_neg (by omega), outE_turn3 b hr hq, if_pos e]
  rfl)
 pass := fun c q b hc hq e => (VC.refl _).step (3 - r) (by omega) (by
  unfold ndV
  rw [nbF_eq hG (ndT_lt hc hq) (by omega) (by omega), if_neg (by omega), outE_turn3 b hr hq, if_neg e]
  rfl)
theorem ndV_lt {n r c q : Nat} {b : Bool} (hr : r < 2) (hc : c < n) (hq : q < 4) : ndV r c q b < 16 * n := by
 have := ndT_lt (b := b) hc hq
 unfold ndV; omega
theorem pole_sides {G : Dg} (hG : GoodG G) (hM : MixG G) {r c q : Nat} (b b' : Bool) (hr : r < 2) (hc : c < G.n) (hq : q < 4) : VC (nbF (outF G)) (ndV r c q b) (ndV r c q b') := by
 have h1 := (ndV_side hG hr).all hG hM hr b hc hq
 have h2 := (ndV_side hG hr).all hG hM hr b' hc hq
 exact h1.trans (VC_symm hG (ndV_lt hr hc hq) h2)
theorem pole_cross {G : Dg} (hG : GoodG G) (hM : MixG G) {r c : Nat} (hr : r < 2) (hc : c < G.n) : ∀ p, p < 4 → VC (nbF (outF G)) (16 * c + (2 + r)) (16 * c + 4 * p + (2 + r)) := by
 intro p
 induction p with
 | zero => intro _; exact .refl _
 | succ p ih =>
  intro hp
  have h1 := pole_sides hG hM (q := p + 1) false true hr hc hp
  unfold ndV ndT at h1
  simp only [Bool.false_eq_true, if_false, if_true] at h1
  rw [show 4 * (4 * c + (p + 1 + 3) % 4) + (2 + r) = 16 * c + 4 * p + (2 + r) by omega, show 4 * (4 * c + (p + 1)) + (2 + r) = 16 * c + 4 * (p + 1) + (2 + r) by omega] at h1
  exact (ih (by omega)).trans h1
theorem pole_conn {G : Dg} (hG : GoodG G) (hM : MixG G) {r c : Nat} (hr : r < 2) (h0 : 0 < G.n) (hc : Conn G 0 c) : c < G.n ∧ VC (nbF (outF G)) (2 + r) (16 * c + (2 + r)) := by
 induction hc with
 | refl => exact ⟨h0, by rw [Nat.mul_zero, Nat.zero_add]; exact .refl _⟩
 | @step b q hb hq ih =>
  obtain ⟨hbn, ih⟩ := ih
  have ho := (oth_spec hG (hG.inV (x := (b, q)) hbn hq)).1
  have h1 := pole_cross hG hM hr hbn q hq
  have h2 := (ndV_side hG hr).across b q true hbn hq
  have h3 := pole_sides hG hM false true hr ho.1 ho.2.1
  have h4 := pole_cross hG hM hr ho.1 _ ho.2.1
  unfold ndV ndT at h2 h3
  simp only [Bool.false_eq_true, if_false, if_true, Bool.not_true] at h2 h3
  rw [show 4 * (4 * b + q) + (2 + r) = 16 * b + 4 * q + (2 + r) by omega] at h2
  rw [show 4 * (4 * (oth G (b, q)).1 + (oth G (b, q)).2) + (2 + r) = 16 * (oth G (b, q)).1 + 4 * (oth G (b, q)).2 + (2 + r) by omega] at h3
  have h5 := VC_symm hG (by have := ho.1; omega) h4
  exact ⟨ho.1, (((ih.trans h1).trans h2).trans h3).trans h5⟩
theorem pole_class {G : Dg} (hG : GoodG G) (hP : PlanG G) (hM : MixG G) {r u w : Nat} (hr : r < 2) (hu : u < 16 * G.n) (hw : w < 16 * G.n) (eu : u % 4 = 2 + r) (ew : w % 4 = 2 + r) : VC (nbF (outF G)) u w := by
 have hn : 0 < G.n := by omega
 have hc := (mix_conn hG hP hn).1 hM.2.2.1
 have key : ∀ u, u < 16 * G.n → u % 4 = 2 + r → VC (nbF (outF G)) (2 + r) u := fun u hu eu => by
  obtain ⟨h1, h2⟩ := pole_conn hG hM hr hn (hc (u / 16) (by omega))
  have h3 := pole_cross hG hM hr h1 (u / 4 % 4) (by omega)
  rw [show 16 * (u / 16) + 4 * (u / 4 % 4) + (2 + r) = u by omega] at h3
  exact h2.trans h3
 exact (VC_symm hG (by omega) (key u hu eu)).trans (key w hw ew)
theorem strand_cross {G : Dg} (hG : GoodG G) {c p s : Nat} (hc : c < G.n) (hp : p < 4) (hs : s < 2) : ∀ k, VC (nbF (outF G)) (16 * c + 4 * p + s) (16 * c + 4 * ((p + k) % 4) + s) := by
 intro k
 induction k with
 | zero => rw [Nat.add_zero, Nat.mod_eq_of_lt hp]; exact .refl _
 | succ k ih =>
  refine ih.step (2 + (p + k) % 4 % 2) (by omega) ?_
  rw [show 16 * c + 4 * ((p + k) % 4) + s = 4 * (4 * c + (p + k) % 4) + s by omega, nbF_eq hG (by omega) (by omega) (by omega), if_neg (by omega), outE_in (p' := (p + (k + 1)) % 4) (Nat.mod_lt _ (by omega)) (.inl ⟨rfl, by omega⟩)]
  show some (4 * (4 * c + (p + (k + 1)) % 4) + s) = _
  congr 1; omega
theorem strand_any {G : Dg} (hG : GoodG G) {c p p' s : Nat} (hc : c < G.n) (hp : p < 4) (hp' : p' < 4) (hs : s < 2) : VC (nbF (outF G)) (16 * c + 4 * p + s) (16 * c + 4 * p' + s) := by
 have := strand_cross hG hc hp hs (4 - p + p')
 rwa [show (p + (4 - p + p')) % 4 = p' by omega] at this
theorem strand_arc {G : Dg} (hG : GoodG G) {c q : Nat} (hc : c < G.n) (hq : q < 4) : VC (nbF (outF G)) (16 * c + (1 - q % 2)) (16 * (oth G (c, q)).1 + (1 - (oth G (c, q)).2 % 2)) := by
 have ho := (oth_spec hG (hG.inV (x := (c, q)) hc hq)).1
 have h1 := strand_any hG (p := 0) (p' := q) (s := 1 - q % 2) hc (by omega) hq (by omega)
 have h2 : VC (nbF (outF G)) (16 * c + 4 * q + (1 - q % 2)) (16 * (oth G (c, q)).1 + 4 * (((oth G (c, q)).2 + 3) % 4) + (1 - (oth G (c, q)).2 % 2)) := (VC.refl _).step (q % 2) (by omega) (by
  rw [show 16 * c + 4 * q + (1 - q % 2) = 4 * (4 * c + q) + (1 - q % 2) by omega, nbF_eq hG (by omega) (by omega) (by omega), if_neg (by omega), outE_own G (e := (c, q)) hq rfl]
  obtain ⟨k1, _, _, _⟩ := pm_arc q (oth G (c, q)).2
  simp only [k1]
  congr 1; omega)
 have h3 := strand_any hG (p := ((oth G (c, q)).2 + 3) % 4) (p' := 0) (s := 1 - (oth G (c, q)).2 % 2) ho.1 (Nat.mod_lt _ (by omega)) (by omega) (by omega)
 exact (h1.trans h2).trans h3
def baC (G : Dg) (a : Nat) : Nat := 16 * G.T a 2 + (1 - G.T a 3 % 2)
theorem baC_next {G : Dg} (hG : GoodG G) {a : Nat} (ha : a < 2 * G.n) : VC (nbF (outF G)) (baC G a) (baC G (nx G a)) := by
 obtain ⟨_, _, t2, t3, _, _, _⟩ := hG.T a ha
 obtain ⟨n1, n2, n3⟩ := nx_begin hG ha
 have ho := oth_tail hG n1
 rw [n2, n3] at ho
 have := strand_arc hG (c := G.T a 2) (q := (G.T a 3 + 2) % 4) t2 (Nat.mod_lt _ (by omega))
 rw [ho, show (G.T a 3 + 2) % 4 % 2 = G.T a 3 % 2 by omega] at this
 exact this
theorem baC_same {G : Dg} (hG : GoodG G) {a b : Nat} (ha : a < 2 * G.n) (h : SameO (nx G) a b) : VC (nbF (outF G)) (baC G a) (baC G b) := by
 obtain ⟨t, rfl⟩ := h
 induction t with
 | zero => exact .refl _
 | succ t ih => exact ih.trans (baC_next hG ((nx_perm hG).itr_lt ha t))
theorem baC_of {G : Dg} (hG : GoodG G) {c p s : Nat} (hc : c < G.n) (hp : p < 4) (hs : s < 2) : VC (nbF (outF G)) (16 * c + 4 * p + s) (baC G (G.X c (1 - s))) := by
 have h1 := strand_any hG (p' := 0) hc hp (by omega) hs
 have hq : 1 - s < 4 := by omega
 have e : s = 1 - (1 - s) % 2 := by omega
 cases ho : outB (G.s c) (1 - s) with
 | false =>
  obtain ⟨i1, i2⟩ := in_head hG hc hq ho
  unfold baC
  rw [i1, i2, ← e]
  exact h1
 | true =>
  obtain ⟨i1, i2⟩ := out_tail hG hc hq ho
  have h3 := oth_tail hG (hG.X c _ hc hq)
  rw [i1, i2] at h3
  have h2 := strand_arc hG hc hq
  rw [h3, ← e] at h2
  exact h1.trans h2
theorem cval_strand (G : Dg) (xs : List Int) (c : Nat) {s : Nat} (hs : s < 2) : cval G xs c s = nth xs (G.X c (1 - s)) := by
 rcases (show s = 0 ∨ s = 1 by omega) with rfl | rfl <;> rfl
theorem cval_pole (G : Dg) (xs : List Int) (c : Nat) {r : Nat} (hr : r < 2) : cval G xs c (2 + r) = -1 - (r : Int) := by
 rcases (show r = 0 ∨ r = 1 by omega) with rfl | rfl <;> rfl
section
variable {G : Dg} (hG : GoodG G) (hP : PlanG G) (hM : MixG G) {xs : List Int} {k : Nat} (hO : OrbI (2 * G.n) (nx G) (2 * G.n) k xs)
include hG hO
omit hG in
theorem xs_rng {a : Nat} (ha : a < 2 * G.n) : 0 ≤ nth xs a ∧ nth xs a < k := by
 have h1 := hO.val a ha
 have h2 := hO.done a ha
 omega
theorem cusp_rng {u : Nat} (hu : u < 16 * G.n) : (u % 4 < 2 → 0 ≤ cuspV G xs u ∧ cuspV G xs u < k) ∧ (2 ≤ u % 4 → cuspV G xs u = 1 - ((u % 4 : Nat) : Int)) := by
 rw [cuspV_eq]
 refine ⟨fun h => ?_, fun h => ?_⟩
 ·rw [cval_strand _ _ _ h]
  exact xs_rng hO (hG.X _ _ (by omega) (by omega))
 ·obtain ⟨r, hr⟩ : ∃ r, u % 4 = 2 + r := ⟨u % 4 - 2, by omega⟩
  rw [hr, cval_pole _ _ _ (by omega)]
  omega
include hP hM
theorem cusp_conv {u w : Nat} (hu : u < 16 * G.n) (hw : w < 16 * G.n) (h : cuspV G xs u = cuspV G xs w) : VC (nbF (outF G)) u w := by
 obtain ⟨a1, a2⟩ := cusp_rng hG hO hu
 obtain ⟨b1, b2⟩ := cusp_rng hG hO hw
 by_cases c1 : u % 4 < 2
 ·by_cases c2 : w % 4 < 2
  ·rw [cuspV_eq, cuspV_eq, cval_strand _ _ _ c1, cval_strand _ _ _ c2] at h
   have x1 := hG.X (u / 16) (1 - u % 4) (by omega) (by omega)
   have x2 := hG.X (w / 16) (1 - w % 4) (by omega) (by omega)
   have hs := (hO.rel _ _ x1 x2 (hO.done _ x1)).1 h
   have h1 := baC_of hG (c := u / 16) (p := u / 4 % 4) (s := u % 4) (by omega) (by omega) c1
   have h2 := baC_of hG (c := w / 16) (p := w / 4 % 4) (s := w % 4) (by omega) (by omega) c2
   rw [show 16 * (u / 16) + 4 * (u / 4 % 4) + u % 4 = u by omega] at h1
   rw [show 16 * (w / 16) + 4 * (w / 4 % 4) + w % 4 = w by omega] at h2
   exact (h1.trans (baC_same hG x1 hs)).trans (VC_symm hG hw h2)
  ·have := a1 c1
   have := b2 (by omega)
   omega
 ·by_cases c2 : w % 4 < 2
  ·have := b1 c2
   have := a2 (by omega)
   omega
  ·have e1 := a2 (by omega)
   have e2 := b2 (by omega)
   exact pole_class hG hP hM (r := u % 4 - 2) (by omega) hu hw (by omega) (by omega)
theorem cusp_iff {u w : Nat} (hu : u < 16 * G.n) (hw : w < 16 * G.n) : VC (nbF (outF G)) u w ↔ cuspV G xs u = cuspV G xs w :=
 ⟨fun h => (cusp_same hG hO hu h).symm, cusp_conv hG hP hM hO hu hw⟩
omit hP in
theorem cusp_all {z : Int} (h1 : -2 ≤ z) (h2 : z < k) : ∃ u, u < 16 * G.n ∧ cuspV G xs u = z := by
 have hn : 0 < G.n := by have := hM.1; omega
 by_cases c : 0 ≤ z
 ·obtain ⟨a, ha, hv, _⟩ := hO.ord z.toNat (by omega)
  obtain ⟨t0, t1, t2, t3, x1, x2, _⟩ := hG.T a ha
  have hs : ∃ s, s < 2 ∧ (nth xs (G.X (G.T a 2) (1 - s)) = z) := by
   have e : nth xs (G.X (G.T a 2) (G.T a 3)) = z := by rw [x2, hv]; omega
   have hst := strand hG hO t2 (q := G.T a 3 % 2) (by omega)
   refine ⟨1 - G.T a 3 % 2, by omega, ?_⟩
   rw [show 1 - (1 - G.T a 3 % 2) = G.T a 3 % 2 by omega]
   by_cases c3 : G.T a 3 < 2
   ·rw [show G.T a 3 % 2 = G.T a 3 by omega]; exact e
   ·rw [← hst, show (G.T a 3 % 2 + 2) % 4 = G.T a 3 by omega]; exact e
  obtain ⟨s, hs, hz⟩ := hs
  refine ⟨16 * G.T a 2 + s, by omega, ?_⟩
  rw [cuspV_eq, show (16 * G.T a 2 + s) / 16 = G.T a 2 by omega, show (16 * G.T a 2 + s) % 4 = s by omega, cval_strand _ _ _ hs]
  exact hz
 ·refine ⟨(1 - z).toNat, by omega, ?_⟩
  rcases (show z = -1 ∨ z = -2 by omega) with rfl | rfl <;> rfl
end
end Go.Proofs.Ytjlkndkedknocaa
