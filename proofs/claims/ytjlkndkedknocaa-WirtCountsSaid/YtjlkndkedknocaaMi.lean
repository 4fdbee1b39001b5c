/- Texts that were built one by one: Wu1, Wq6, Wu2, Pg1, Pg2, Wu3, Wl9. -/
import Derived.Test.YtjlkndkedknocaaMf
import Derived.Test.YtjlkndkedknocaaMg
import Derived.Test.YtjlkndkedknocaaMe
import Derived.Test.YtjlkndkedknocaaMh
set_option linter.unusedSimpArgs false
set_option linter.unusedVariables false
namespace Go.Proofs.Ytjlkndkedknocaa
open Go Go.Ai
attribute [local instance] Classical.propDecidable
def crossL (x : Nat → Nat → Int) (s : Nat → Int) : Nat → List Value
 | 0 => []
 | k + 1 => crossL x s k ++ crossC (x k) (s k)
theorem crossL_len (x : Nat → Nat → Int) (s : Nat → Int) : ∀ k, (crossL x s k).length = k * 5 := by
 intro k
 induction k with
 | zero => rfl
 | succ k ih => simp only [crossL, List.length_append, ih]; simp [crossC]; omega
theorem crossL_part (x : Nat → Nat → Int) (s : Nat → Int) : ∀ k i, i < k → ((crossL x s k).drop (i * 5)).take 5 = crossC (x i) (s i) := by
 intro k
 induction k with
 | zero => intro i hi; omega
 | succ k ih =>
  intro i hi
  have hl := crossL_len x s k
  simp only [crossL]
  by_cases h : i < k
  ·rw [List.drop_append_of_le_length (by omega), List.take_append_of_le_length (by simp; omega)]
   exact ih i h
  ·obtain rfl : i = k := by omega
   rw [List.drop_append, List.drop_eq_nil_of_le (by omega), hl, Nat.sub_self, List.nil_append, List.drop_zero]
   exact List.take_of_length_le (by simp [crossC])
theorem crossL_of {x : Nat → Nat → Int} {s : Nat → Int} {n : Nat} {l : List Value} (hl : l.length = n * 5) (hp : ∀ i, i < n → (l.drop (i * 5)).take 5 = crossC (x i) (s i)) : l = crossL x s n := by
 have key : ∀ k, k ≤ n → l.take (k * 5) = crossL x s k := by
  intro k
  induction k with
  | zero => intro _; simp [crossL]
  | succ k ih =>
   intro hk
   have e : (k + 1) * 5 = k * 5 + 5 := by omega
   rw [e, List.take_add, ih (by omega), hp k (by omega)]
   rfl
 rw [← key n (Nat.le_refl _), List.take_of_length_le (by omega)]
theorem crossL_congr {x y : Nat → Nat → Int} {s t : Nat → Int} : ∀ {k : Nat}, (∀ i, i < k → s i = t i ∧ ∀ q, q < 4 → x i q = y i q) → crossL x s k = crossL y t k := by
 intro k
 induction k with
 | zero => intro _; rfl
 | succ k ih =>
  intro h
  simp only [crossL]
  rw [ih fun i hi => h i (by omega)]
  obtain ⟨h1, h2⟩ := h k (by omega)
  simp only [crossC, h1, h2 0 (by omega), h2 1 (by omega), h2 2 (by omega), h2 3 (by omega)]
theorem ownT_cross {h : List O} {lo k : Nat} {v : Value} {x : Nat → Nat → Int} {s : Nat → Int} {el : TypeId} (ho : OwnT h lo v k (crossL x s k) el 5) : ∃ a, v = .slice a k k ∧ CrossP h a k x s := by
 obtain ⟨a, hv, hb⟩ := ho.look
 refine ⟨a, hv, ?_⟩
 rcases Nat.eq_zero_or_pos k with rfl | hk
 ·exact ⟨0, 0, fun h => by omega, fun i hi => by omega⟩
 ·obtain ⟨b, sz, ha, _, hc⟩ := hb hk
  have hl := crossL_len x s k
  refine ⟨b, 0, fun _ => ha, fun i hi => ?_⟩
  rw [rdN_def, hc, rdNO_cells, if_pos (by omega), Nat.zero_add, crossL_part x s k i hi]
theorem copyE {H : List O} {a : Option Addr} {n c fl : Nat} {x : Nat → Nat → Int} {s : Nat → Int} (hx : CrossP H a n x s) (hn : n ≤ 1000) :
  ∃ v H', appendV 107 5 40 emptyS (.slice a n c) ⟨H, fl⟩ = some (v, ⟨H', fl⟩) ∧ Sub H H' ∧ OwnT H' H.length v n (crossL x s n) 107 5 := by
 rcases Nat.eq_zero_or_pos n with rfl | h0
 ·exact ⟨emptyS, H, append_e0, Sub.refl _, .inl ⟨rfl, rfl, rfl⟩⟩
 ·obtain ⟨b, o, l, rfl, h1, h2, h3, h4⟩ := hx.whole h0
  have hap := append_eN (el := 107) (bytes := 40) (c := c) (fl := fl) h1 h0 (by omega) h3 (by simp only [roomMax]; omega)
  have hl := crossL_of h2 h4
  rw [← hl]
  exact ⟨_, _, hap, (Sub.refl _).app _, .inr ⟨h2, .inr ⟨H.length, 5, rfl, Nat.le_refl _, by rw [app_at0]; rfl, .inr rfl⟩⟩⟩
def unX (n : Nat) (x x' : Nat → Nat → Int) (i q : Nat) : Int := if i < n then x i q else x' (i - n) q + 2 * n
def unS (n : Nat) (s s' : Nat → Int) (i : Nat) : Int := if i < n then s i else s' (i - n)
def UniP (h0 : List O) (n n' : Nat) (x x' : Nat → Nat → Int) (s s' : Nat → Int) (L L' : Int) (o : Out) (st' : St) : Prop :=
 Sub h0 st'.h ∧ h0.length ≤ st'.fl ∧
   ((200 < n + n' ∨ 200 < L + L') ∧ o = .ret (.tuple #[.agg #[.slice none 0 0, .int .i64 0], .int .i64 2]) ∨
     ¬ (200 < n + n' ∨ 200 < L + L') ∧ ∃ a2, o = .ret (.tuple #[dV a2 (n + n') (n + n') (L + L'), .int .i64 0]) ∧ CrossP st'.h a2 (n + n') (unX n x x') (unS n s s'))
theorem UniP.big {h0 h : List O} {f : Nat} {n n' : Nat} {x x' : Nat → Nat → Int} {s s' : Nat → Int} {L L' : Int} (hb : 200 < n + n' ∨ 200 < L + L') (hs : Sub h0 h) (hf : h0.length ≤ f) :
  pairQ (back ⟨h0, h0.length⟩ (.ret (.tuple #[.agg #[.slice none 0 0, .int .i64 0], .int .i64 2])) ⟨h, f⟩) (UniP h0 n n' x x' s s' L L') := by
 unfold pairQ back
 split
 ·exact ⟨Sub.refl _, Nat.le_refl _, .inl ⟨hb, rfl⟩⟩
 ·exact ⟨hs, hf, .inl ⟨hb, rfl⟩⟩
variable {E : Env} (hE : OE E)
include hE
theorem unionR_ {h0 : List O} {a a' : Option Addr} {n c n' c' : Nat} {x x' : Nat → Nat → Int} {s s' : Nat → Int} {L L' : Int} (hx : CrossP h0 a n x s) (hx' : CrossP h0 a' n' x' s') (hn : n ≤ 200 ∧ n' ≤ 200) (hL : (0 ≤ L ∧ L ≤ 200) ∧ 0 ≤ L' ∧ L' ≤ 200) (hb : ∀ i q, i < n' → q < 4 → -1000 ≤ x' i q ∧ x' i q ≤ 1000) :
  DC E 61 [dV a n c L, dV a' n' c' L'] ⟨h0, h0.length⟩ (UniP h0 n n' x x' s s' L L') := by
 refine hE.fnC (body := rb61) rfl ?_
 unfold rb61
 have hw1 : IntKind.i64.wrap ((n : Int) + n') = n + n' := by rw [w64_id] <;> omega
 have hw2 : IntKind.i64.wrap (L + L') = L + L' := by rw [w64_id] <;> omega
 by_cases hbig : 200 < n + n' ∨ 200 < L + L'
 ·by_cases c1 : 200 < (n : Int) + n'
  ·simp [dV, List.append_assoc, rd_at0, rd_at, hw1, hw2, c1, wrN_at, set_at]
   exact UniP.big hbig ((Sub.refl _).app _) (Nat.le_refl _)
  ·have c2 : 200 < L + L' := by omega
   simp [dV, List.append_assoc, rd_at0, rd_at, hw1, hw2, c1, c2, wrN_at, set_at]
   exact UniP.big hbig ((Sub.refl _).app _) (Nat.le_refl _)
 ·have c1 : ¬ 200 < (n : Int) + n' := by omega
  have c2 : ¬ 200 < L + L' := by omega
  obtain ⟨h1, hh1⟩ : ∃ H, H = h0 ++ [O.cells [.slice a n c, .int .i64 L] 24 (some 0), O.cells [.slice a' n' c', .int .i64 L'] 24 (some 0), O.cells [.slice none 0 0, .int .i64 0] 24 (some 0)] := ⟨_, rfl⟩
  have s1 : Sub h0 h1 := by rw [hh1]; exact (Sub.refl _).app _
  have l1 : h1.length = h0.length + 3 := by rw [hh1]; simp
  obtain ⟨P, hP⟩ : ∃ P, P = h0.length + 1 := ⟨_, rfl⟩
  obtain ⟨R, hR⟩ : ∃ R, R = h0.length + 2 := ⟨_, rfl⟩
  have b0 : h1[h0.length]? = some (O.cells [.slice a n c, .int .i64 L] 24 (some 0)) := by rw [hh1, app_at0]; rfl
  have b1 : h1[P]? = some (O.cells [.slice a' n' c', .int .i64 L'] 24 (some 0)) := by rw [hh1, hP, app_at]; rfl
  have b2 : h1[R]? = some (O.cells [.slice none 0 0, .int .i64 0] 24 (some 0)) := by rw [hh1, hR, app_at]; rfl
  have hmR : min h0.length R = h0.length := by omega
  obtain ⟨v2, h2, hap, s2, ho2⟩ := copyE (c := c) (fl := h0.length) (hx.sub s1) (by omega)
  obtain ⟨a2, hv2, _⟩ := ownT_cross ho2
  have one2 : one1 v2 = true := by rw [hv2]; rfl
  have cs2 : v2.cells = #[v2] := by rw [hv2]; rfl
  simp [dV, List.append_assoc, ↓← hh1]
  rw [← hP, ← hR]
  have e0 := s2 _ _ b0
  have e1 := s2 _ _ b1
  have e2 := s2 _ _ b2
  have l2 := s2.len
  have hm2 : min h0.length h2.length = h0.length := by omega
  obtain ⟨h3, hh3⟩ : ∃ H, H = h2 ++ [O.cells [v2, .int .i64 (L + L')] 24 (some 0)] := ⟨_, rfl⟩
  have s3 : Sub h2 h3 := by rw [hh3]; exact (Sub.refl _).app _
  have b3 : h3[h2.length]? = some (O.cells [v2, .int .i64 (L + L')] 24 (some 0)) := by rw [hh3, app_at0]; rfl
  obtain ⟨Q, hQ⟩ : ∃ Q, Q = h2.length := ⟨_, rfl⟩
  have hbe : blk emptyS = [] := rfl
  simp [rd_def, b0, b1, b2, hw1, hw2, c1, c2, hap, one2, cs2, bit, e0, e1, e2, wrN_at0, set_at0, hm2, ↓← hh3, hbe]
  rw [← hQ] at b3
  rw [← hQ]
  have s13 : Sub h1 h3 := s2.trans s3
  have ho3 : OwnT h3 h1.length v2 n (crossL (unX n x x') (unS n s s') n) 107 5 := by
   rw [crossL_congr (y := x) (t := s) fun i hi => ⟨by simp only [unS, if_pos hi], fun q _ => by simp only [unX, if_pos hi]⟩]
   exact ho2.keep fun b sz _ _ hb => s3 _ _ hb
  obtain ⟨U, hU⟩ : ∃ U, U = unX n x x' := ⟨_, rfl⟩
  obtain ⟨S, hS⟩ : ∃ S, S = unS n s s' := ⟨_, rfl⟩
  rw [← hU, ← hS] at ho3
  refine DW_loop (fun kk fr st => ∃ (i : Nat) (h : List O) (v : Value), i + kk = n' ∧ st = ⟨h, h0.length⟩ ∧ Sub h1 h ∧ h[Q]? = some (O.cells [v, .int .i64 (L + L')] 24 (some 0)) ∧ OwnT h h1.length v (n + i) (crossL U S (n + i)) 107 5 ∧
   get fr 2 = .pointer (some ⟨h0.length, 0, none⟩) ∧ get fr 3 = .pointer (some ⟨P, 0, none⟩) ∧ get fr 4 = .pointer (some ⟨R, 0, none⟩) ∧ get fr 6 = .pointer (some ⟨Q, 0, none⟩) ∧ get fr 7 = .int .i64 i) ?_ (k := n') ?_
  ·rintro kk fr st ⟨i, h, v, hik, rfl, hs, hQb, ho, g2, g3, g4, g6, g7⟩
   have hP1 := hs _ _ b1
   have hb0 := hs _ _ b0
   by_cases hi : i < n'
   ·have hi' : (i : Int) < n' := by omega
    have hwi : IntKind.i64.wrap ((i : Int) + 1) = (i : Int) + 1 := by rw [w64_id] <;> omega
    obtain ⟨xb, xo, hxa, hxr⟩ := (hx'.sub s1).sub hs
    obtain rfl := hxa (by omega)
    have hcr := hxr i hi
    obtain ⟨B, hB⟩ : ∃ B, B = h.length := ⟨_, rfl⟩
    obtain ⟨y, hy⟩ : ∃ y, y = x' i := ⟨_, rfl⟩
    have hyb : ∀ q, q < 4 → -1000 ≤ y q ∧ y q ≤ 1000 := fun q hq => by rw [hy]; exact hb i q hi hq
    rw [← hy] at hcr
    simp only [crossC] at hcr
    simp [g2, g3, g4, g6, g7, hi, hi', rd_def, ↓hP1, hcr, wrN_at0, set_at0]
    have lh := hs.len
    have hmB : min h0.length h.length = h0.length := by omega
    have hb0' : ∀ l, (h ++ l)[h0.length]? = some (O.cells [.slice a n c, .int .i64 L] 24 (some 0)) := fun l => app_of hb0 l
    have hw2n : IntKind.i64.wrap (2 * (n : Int)) = 2 * n := by rw [w64_id] <;> omega
    have hwy : ∀ q, q < 4 → IntKind.i64.wrap (y q + 2 * (n : Int)) = y q + 2 * n := fun q hq => by have := hyb q hq; rw [w64_id] <;> omega
    have hk1 : IntKind.i64.wrap 1 = 1 := by rw [w64_id] <;> omega
    have hk2 : IntKind.i64.wrap 2 = 2 := by rw [w64_id] <;> omega
    have hk3 : IntKind.i64.wrap 3 = 3 := by rw [w64_id] <;> omega
    have hk4 : IntKind.i64.wrap 4 = 4 := by rw [w64_id] <;> omega
    have hwy0 := hwy 0 (by omega)
    have hwy1 := hwy 1 (by omega)
    have hwy2 := hwy 2 (by omega)
    have hwy3 := hwy 3 (by omega)
    rw [hmB]
    refine DW_loop (fun kk' fr st => ∃ (p : Nat), p + kk' = 4 ∧ st = ⟨h ++ [O.cells (crossC (fun q => if q < p then y q + 2 * n else y q) (s' i)) 107 (some 0)], h0.length⟩ ∧
     get fr 2 = .pointer (some ⟨h0.length, 0, none⟩) ∧ get fr 3 = .pointer (some ⟨P, 0, none⟩) ∧ get fr 4 = .pointer (some ⟨R, 0, none⟩) ∧ get fr 6 = .pointer (some ⟨Q, 0, none⟩) ∧ get fr 7 = .int .i64 i ∧ get fr 8 = .pointer (some ⟨h.length, 0, none⟩) ∧ get fr 9 = .int .i64 p) ?_ (k := 4) ?_
    ·clear g2 g3 g4 g6 g7
     rintro kk' fr st ⟨p, hpk, rfl, g2, g3, g4, g6, g7, g8, g9⟩
     have hp5 : p = 0 ∨ p = 1 ∨ p = 2 ∨ p = 3 ∨ p = 4 := by omega
     rcases hp5 with rfl | rfl | rfl | rfl | rfl
     ·simp [g2, g3, g4, g6, g7, g8, g9, crossC, rd_at0, hb0', rd_def, hw2n, hwy0, bit, wrN_at0, set_at0]
      exact ⟨3, by omega, 1, by omega, by omega⟩
     ·simp [g2, g3, g4, g6, g7, g8, g9, crossC, rd_at0, hb0', rd_def, hw2n, hwy1, bit, wrN_at0, set_at0]
      exact ⟨2, by omega, 2, by omega, by omega⟩
     ·simp [g2, g3, g4, g6, g7, g8, g9, crossC, rd_at0, hb0', rd_def, hw2n, hwy2, bit, wrN_at0, set_at0]
      exact ⟨1, by omega, 3, by omega, by omega⟩
     ·simp [g2, g3, g4, g6, g7, g8, g9, crossC, rd_at0, hb0', rd_def, hw2n, hwy3, bit, wrN_at0, set_at0]
      exact ⟨0, by omega, 4, by omega, by omega⟩
     ·obtain ⟨H5, hH5⟩ : ∃ H, H = h ++ [O.cells [Value.int .i64 (y 0 + 2 * n), .int .i64 (y 1 + 2 * n), .int .i64 (y 2 + 2 * n), .int .i64 (y 3 + 2 * n), .int .i64 (s' i)] 107 (some 0)] := ⟨_, rfl⟩
      obtain ⟨H6, hH6⟩ : ∃ H, H = H5 ++ [O.cells [Value.int .i64 (y 0 + 2 * n), .int .i64 (y 1 + 2 * n), .int .i64 (y 2 + 2 * n), .int .i64 (y 3 + 2 * n), .int .i64 (s' i)] 107 (some 0)] := ⟨_, rfl⟩
      have l5 : H5.length = h.length + 1 := by rw [hH5]; simp
      have l6 : H6.length = h.length + 2 := by rw [hH6]; simp [l5]
      have q5 : H5[Q]? = some (O.cells [v, .int .i64 (L + L')] 24 (some 0)) := by rw [hH5]; exact app_of hQb _
      have q6 : H6[Q]? = some (O.cells [v, .int .i64 (L + L')] 24 (some 0)) := by rw [hH6]; exact app_of q5 _
      have hB5 : H5[h.length]? = some (O.cells [Value.int .i64 (y 0 + 2 * n), .int .i64 (y 1 + 2 * n), .int .i64 (y 2 + 2 * n), .int .i64 (y 3 + 2 * n), .int .i64 (s' i)] 107 (some 0)) := by rw [hH5, app_at0]; rfl
      have s6 : Sub h H6 := by rw [hH6, hH5]; exact ((Sub.refl _).app _).app _
      have hread : readSlice H6 5 1 (some ⟨H5.length, 0, none⟩) = some [Value.int .i64 (y 0 + 2 * n), .int .i64 (y 1 + 2 * n), .int .i64 (y 2 + 2 * n), .int .i64 (y 3 + 2 * n), .int .i64 (s' i)] := by
       rw [hH6]; simp [readSlice, rdN_at0]
      have ho6 := ho.keep (h' := H6) fun b sz _ _ hb => s6 _ _ hb
      obtain ⟨b', H7, f7, hap7, hb', hown, hf1, hf2, hL7, K7⟩ := append_T (fl := h0.length) (c := 1) (bytes := 40) ho6 hread (by simp) rfl (by omega) (by simp only [roomMax]; omega) (by omega)
      obtain rfl : f7 = h0.length := by omega
      have q7 := K7 _ _ q6 (.inr fun c s e => by cases e)
      have hmQ : min h0.length Q = h0.length := by omega
      have hnc : (n : Int) + (i : Int) + 1 = ((n + i + 1 : Nat) : Int) := by omega
      simp [g2, g3, g4, g6, g7, g8, g9, crossC, rd_at0, hb0', rd_def, rdN_def, ↓← hH5, ↓q5, ↓hB5, ↓← hH6, hap7, wrN_def, ↓q7, hmQ, hwi]
      have hUi : ∀ q, U (n + i) q = y q + 2 * n := fun q => by
       rw [hU, hy]; unfold unX
       rw [if_neg (by omega), Nat.add_sub_cancel_left]
      have hSi : S (n + i) = s' i := by
       rw [hS]; unfold unS
       rw [if_neg (by omega), Nat.add_sub_cancel_left]
      have hcl : crossL U S (n + i + 1) = crossL U S (n + i) ++ [Value.int .i64 (y 0 + 2 * n), .int .i64 (y 1 + 2 * n), .int .i64 (y 2 + 2 * n), .int .i64 (y 3 + 2 * n), .int .i64 (s' i)] := by
       simp only [crossL, crossC, hUi, hSi]
      rw [← hcl] at hown
      refine ⟨kk - 1, by omega, i + 1, by omega, fun b o hb => ?_, _, set_self q7, hown.keep fun b sz _ _ hb => ?_, by omega⟩
      ·have hbl := (List.getElem?_eq_some_iff.1 hb).1
       exact set_ne (K7 b o (s6 _ _ (hs _ _ hb)) (.inl hbl)) (by omega)
      ·refine set_ne hb fun e => ?_
       subst e
       rw [q7] at hb
       exact absurd (O.cells.inj (Option.some.inj hb)).2.1 (by decide)
    ·exact ⟨0, by omega, by simp [crossC], by simp [g2, g3, g4, g6, g7]⟩
   ·have hin : i = n' := by omega
    subst hin
    have hRb := hs _ _ b2
    have hQR : Q ≠ R := fun e => by
     have := (List.getElem?_eq_some_iff.1 b2).1
     omega
    obtain ⟨a4, hv4, hc4⟩ := ownT_cross ho
    have hown : OwnT (h.set R (O.cells [v, .int .i64 (L + L')] 24 (some 0))) h1.length v (n + i) (crossL U S (n + i)) 107 5 := ho.keep fun b sz _ _ hb => by
     refine set_ne hb fun e => ?_
     subst e
     rw [hRb] at hb
     exact absurd (O.cells.inj (Option.some.inj hb)).2.1 (by decide)
    obtain ⟨a5, hv5, hc5⟩ := ownT_cross hown
    subst hv5
    have hs4 : Sub h0 (h.set R (O.cells [.slice a5 (n + i) (n + i), .int .i64 (L + L')] 24 (some 0))) := (s1.trans hs).set (by omega) _
    have hR4 : (h.set R (O.cells [.slice a5 (n + i) (n + i), .int .i64 (L + L')] 24 (some 0)))[R]? = some (O.cells [.slice a5 (n + i) (n + i), .int .i64 (L + L')] 24 (some 0)) := set_self hRb
    simp [g2, g3, g4, g6, g7, rd_def, ↓hP1, rdN_def, ↓hQb, wrN_def, ↓hRb, hmR, ↓hR4]
    rw [hU, hS] at hc5
    unfold pairQ back
    split
    ·rename_i hc
     simp [Out.scalar, scalar, flat1] at hc
     have hz : n + i = 0 := flat_len rfl hc.1.1
     exact ⟨Sub.refl _, Nat.le_refl _, .inr ⟨hbig, a5, rfl, 0, 0, fun h => by omega, fun j hj => by omega⟩⟩
    ·exact ⟨hs4, Nat.le_refl _, .inr ⟨hbig, a5, rfl, hc5⟩⟩
  ·exact ⟨0, h3, v2, by omega, rfl, s13, b3, ho3, by simp⟩
end Go.Proofs.Ytjlkndkedknocaa
namespace Go.Ai
attribute [local instance] Classical.propDecidable
noncomputable def cntL (P : List (List Int)) : Nat → (List (List Int) → Prop) → Nat
 | 0, p => if p [] then 1 else 0
 | m + 1, p => sumNat (fun q => cntL P m (fun B => p (nthR P q :: B))) P.length
theorem cntL_congr {P : List (List Int)} : ∀ {m : Nat} {p p' : List (List Int) → Prop}, (∀ B, B.length = m → (p B ↔ p' B)) → cntL P m p = cntL P m p' := by
 intro m
 induction m with
 | zero =>
  intro p p' h
  simp only [cntL, h [] rfl]
 | succ m ih =>
  intro p p' h
  simp only [cntL]
  exact sumNat_congr fun q _ => ih fun B hB => h _ (by simp [hB])
theorem sumNat_zero {f : Nat → Nat} : ∀ {n : Nat}, (∀ i, i < n → f i = 0) → sumNat f n = 0 := by
 intro n
 induction n with
 | zero => intro _; rfl
 | succ n ih => intro h; simp only [sumNat]; rw [ih fun i hi => h i (by omega), h n (by omega)]
theorem sumNat_mul {f : Nat → Nat} (c : Nat) : ∀ {n : Nat}, sumNat (fun i => f i * c) n = sumNat f n * c := by
 intro n
 induction n with
 | zero => simp [sumNat]
 | succ n ih => simp only [sumNat]; rw [ih, Nat.add_mul]
theorem sumNat_const (c : Nat) : ∀ n, sumNat (fun _ => c) n = n * c := by
 intro n
 induction n with
 | zero => simp [sumNat]
 | succ n ih => simp only [sumNat]; rw [ih, Nat.succ_mul]
theorem cntL_false {P : List (List Int)} : ∀ {m : Nat} {p : List (List Int) → Prop}, (∀ B, ¬ p B) → cntL P m p = 0 := by
 intro m
 induction m with
 | zero => intro p h; simp only [cntL]; rw [if_neg (h [])]
 | succ m ih => intro p h; simp only [cntL]; exact sumNat_zero fun q _ => ih fun B => h _
theorem cntL_true {P : List (List Int)} : ∀ {m : Nat} {p : List (List Int) → Prop}, (∀ B, p B) → cntL P m p = P.length ^ m := by
 intro m
 induction m with
 | zero => intro p h; simp only [cntL]; rw [if_pos (h [])]; rfl
 | succ m ih =>
  intro p h
  simp only [cntL]
  rw [sumNat_congr (g := fun _ => P.length ^ m) fun q _ => ih fun B => h _, sumNat_const, Nat.pow_succ, Nat.mul_comm]
theorem cntL_mul {P : List (List Int)} {m2 : Nat} {p2 : List (List Int) → Prop} : ∀ {m1 : Nat} {p1 : List (List Int) → Prop}, cntL P (m1 + m2) (fun B => p1 (B.take m1) ∧ p2 (B.drop m1)) = cntL P m1 p1 * cntL P m2 p2 := by
 intro m1
 induction m1 with
 | zero =>
  intro p1
  simp only [cntL, Nat.zero_add, List.take_zero, List.drop_zero]
  by_cases h : p1 []
  ·rw [if_pos h, Nat.one_mul]
   exact cntL_congr fun B _ => by simp [h]
  ·rw [if_neg h, Nat.zero_mul]
   exact cntL_false fun B hB => h hB.1
 | succ m1 ih =>
  intro p1
  rw [show m1 + 1 + m2 = (m1 + m2) + 1 by omega]
  simp only [cntL, List.take_succ_cons, List.drop_succ_cons]
  rw [← sumNat_mul]
  exact sumNat_congr fun q _ => ih (p1 := fun B => p1 (nthR P q :: B))
def TrivM (n : Nat) (A : List (List Int)) (w : List Int) : Prop := TrivL A (A.map invL) w n
def shL (d : Nat) (y : Int) : Int := if 0 < y then y + d else y - d
theorem nthR_inv (A : List (List Int)) (k : Nat) : nthR (A.map invL) k = invL (nthR A k) := by
 by_cases h : k < A.length
 ·simp [nthR, h]
 ·simp [nthR, h, invL, invN]
theorem act_congr {A A' : List (List Int)} {d : Nat} : ∀ {w : List Int}, (∀ y ∈ w, y ≠ 0 ∧ nthR A' (y.natAbs - 1 + d) = nthR A (y.natAbs - 1)) → ∀ p, actW A' (A'.map invL) (w.map (shL d)) p = actW A (A.map invL) w p := by
 intro w
 induction w with
 | nil => intro _ p; rfl
 | cons y w ih =>
  intro h p
  have h1 := h y (by simp)
  have ih' := ih fun z hz => h z (by simp [hz])
  simp only [actW, List.map_cons, List.foldl_cons] at ih' ⊢
  have e : actL A' (A'.map invL) p (shL d y) = actL A (A.map invL) p y := by
   unfold actL shL
   by_cases hy : 0 < y
   ·rw [if_pos hy, if_pos (show 0 < y + (d : Int) by omega), if_pos hy]
    rw [show (y + (d : Int) - 1).toNat = y.natAbs - 1 + d by omega, show (y - 1).toNat = y.natAbs - 1 by omega, h1.2]
   ·have hn : ¬ 0 < y - (d : Int) := by omega
    rw [if_neg hy, if_neg hn, if_neg hy]
    rw [show (-(y - (d : Int)) - 1).toNat = y.natAbs - 1 + d by omega, show (-y - 1).toNat = y.natAbs - 1 by omega, nthR_inv, nthR_inv, h1.2]
  rw [e]
  exact ih' _
theorem triv_congr {n : Nat} {A A' : List (List Int)} {d : Nat} {w : List Int} (h : ∀ y ∈ w, y ≠ 0 ∧ nthR A' (y.natAbs - 1 + d) = nthR A (y.natAbs - 1)) : TrivM n A' (w.map (shL d)) ↔ TrivM n A w := by
 unfold TrivM TrivL
 constructor <;> intro k i hi <;> have := k i hi <;> rw [act_congr h] at * <;> exact this
theorem shL_zero (w : List Int) : w.map (shL 0) = w := by
 induction w with
 | nil => rfl
 | cons y w ih => rw [List.map_cons, ih]; unfold shL; split <;> simp
theorem triv_same {n : Nat} {A A' : List (List Int)} {w : List Int} (h : ∀ y ∈ w, y ≠ 0 ∧ nthR A' (y.natAbs - 1) = nthR A (y.natAbs - 1)) : TrivM n A' w ↔ TrivM n A w := by
 have := triv_congr (n := n) (A := A) (A' := A') (d := 0) (w := w) (by simpa using h)
 rwa [shL_zero] at this
theorem nthR_app1 {A B : List (List Int)} {k : Nat} (h : k < A.length) : nthR (A ++ B) k = nthR A k := by simp [nthR, List.getElem?_append_left h]
theorem cntV_cntL {n : Nat} {P rels : List (List Int)} (hz : ∀ i, i < rels.length → ∀ y ∈ nthR rels i, y ≠ 0) : ∀ m A, cntV n P rels m A = cntL P m (fun B => ∀ i, i < rels.length → A.length < lastW (nthR rels i) → lastW (nthR rels i) ≤ A.length + m → TrivM n (A ++ B) (nthR rels i)) := by
 intro m
 induction m with
 | zero =>
  intro A
  simp only [cntV, cntL]
  rw [if_pos fun i _ h1 h2 => by omega]
 | succ m ih =>
  intro A
  simp only [cntV, cntL]
  refine sumNat_congr fun q hq => ?_
  have hpre : ∀ i, i < rels.length → lastW (nthR rels i) = A.length + 1 → ∀ B, TrivM n (A ++ nthR P q :: B) (nthR rels i) ↔ TrivM n (A ++ [nthR P q]) (nthR rels i) := fun i hi hl B => by
   refine triv_same fun y hy => ⟨hz i hi y hy, ?_⟩
   have h1 := lastW_le hy
   have h2 := hz i hi y hy
   rw [show A ++ nthR P q :: B = (A ++ [nthR P q]) ++ B by simp]
   exact nthR_app1 (by simp; omega)
  have hlen : (A ++ [nthR P q]).length = A.length + 1 := by simp
  by_cases hg : GoodA n rels (A ++ [nthR P q])
  ·rw [if_pos hg, ih]
   have hok := ok_good.1 hg
   refine cntL_congr fun B _ => ?_
   rw [hlen]
   constructor
   ·intro h i hi h1 h2
    by_cases e : lastW (nthR rels i) = A.length + 1
    ·exact (hpre i hi e B).2 (hok i hi (by rw [hlen]; exact e))
    ·have := h i hi (by omega) (by omega)
     rwa [List.append_assoc] at this
   ·intro h i hi h1 h2
    have := h i hi (by omega) (by omega)
    rwa [List.append_assoc]
  ·rw [if_neg hg]
   refine (cntL_false fun B h => hg (ok_good.2 fun i hi he => ?_)).symm
   rw [hlen] at he
   exact (hpre i hi he B).1 (h i hi (by omega) (by omega))
theorem cntV_all {n m : Nat} {P rels : List (List Int)} (hz : ∀ i, i < rels.length → nthR rels i ≠ [] ∧ LetOk m (nthR rels i)) : cntV n P rels m [] = cntL P m (fun B => ∀ i, i < rels.length → TrivM n B (nthR rels i)) := by
 have hzz : ∀ i, i < rels.length → ∀ y ∈ nthR rels i, y ≠ 0 ∧ y.natAbs ≤ m := fun i hi y hy => by
  obtain ⟨j, hj, he⟩ := List.getElem_of_mem hy
  have := (hz i hi).2 j hj
  rw [nth_eq hj, he] at this
  exact ⟨this.1, by omega⟩
 rw [cntV_cntL fun i hi y hy => (hzz i hi y hy).1]
 refine cntL_congr fun B _ => ?_
 constructor
 ·intro h i hi
  refine h i hi ?_ ?_
  ·obtain ⟨y, hy⟩ := List.exists_mem_of_ne_nil _ (hz i hi).1
   have h1 := lastW_le hy
   have h2 := (hzz i hi y hy).1
   simp; omega
  ·simp only [List.length_nil, Nat.zero_add]
   unfold lastW
   rw [foldl_max_le]
   exact ⟨by omega, fun y hy => (hzz i hi y hy).2⟩
 ·intro h i hi _ _
  exact h i hi
end Go.Ai
namespace Go.Proofs.Ytjlkndkedknocaa
open Go Go.Ai
attribute [local instance] Classical.propDecidable
structure IsUn (G H U : Dg) : Prop where
 n : U.n = G.n + H.n
 X1 : ∀ i q, i < G.n → q < 4 → U.X i q = G.X i q
 X2 : ∀ i q, i < H.n → q < 4 → U.X (G.n + i) q = H.X i q + 2 * G.n
 s1 : ∀ i, i < G.n → U.s i = G.s i
 s2 : ∀ i, i < H.n → U.s (G.n + i) = H.s i
 L : U.L = G.L + H.L
variable {G H U : Dg}
theorem IsUn.arch1 (h : IsUn G H U) (hG : GoodG G) : ∀ k, k ≤ G.n → (∀ i, i < 2 * G.n → archR U.X k i = archR G.X k i) ∧ ∀ i, 2 * G.n ≤ i → archR U.X k i = i := by
 intro k
 induction k with
 | zero => intro _; exact ⟨fun i _ => rfl, fun i _ => rfl⟩
 | succ k ih =>
  intro hk
  obtain ⟨i1, i2⟩ := ih (by omega)
  have e1 := h.X1 k 1 (by omega) (by omega)
  have e3 := h.X1 k 3 (by omega) (by omega)
  have l1 := hG.X k 1 (by omega) (by omega)
  have l3 := hG.X k 3 (by omega) (by omega)
  have r1 := (archR_rep G.X k).le (G.X k 1)
  have r3 := (archR_rep G.X k).le (G.X k 3)
  have a1 := i1 _ l1
  have a3 := i1 _ l3
  refine ⟨fun i hi => ?_, fun i hi => ?_⟩
  ·simp only [archR, jn, e1, e3, a1, a3, i1 i hi]
  ·simp only [archR, jn, e1, e3, a1, a3, i2 i hi]
   rw [if_neg (by omega)]
theorem IsUn.arch2 (h : IsUn G H U) (hG : GoodG G) (hH : GoodG H) : ∀ k, k ≤ H.n → (∀ i, i < 2 * G.n → archR U.X (G.n + k) i = archR G.X G.n i) ∧ ∀ j, archR U.X (G.n + k) (2 * G.n + j) = archR H.X k j + 2 * G.n := by
 intro k
 induction k with
 | zero =>
  intro _
  obtain ⟨h1, h2⟩ := h.arch1 hG G.n (Nat.le_refl _)
  exact ⟨h1, fun j => by rw [Nat.add_zero, h2 _ (by omega)]; simp only [archR]; omega⟩
 | succ k ih =>
  intro hk
  obtain ⟨i1, i2⟩ := ih (by omega)
  have e1 := h.X2 k 1 (by omega) (by omega)
  have e3 := h.X2 k 3 (by omega) (by omega)
  have a1 := i2 (H.X k 1)
  have a3 := i2 (H.X k 3)
  rw [Nat.add_comm (2 * G.n), ← e1] at a1
  rw [Nat.add_comm (2 * G.n), ← e3] at a3
  refine ⟨fun i hi => ?_, fun j => ?_⟩
  ·have r := (archR_rep G.X G.n).le i
   rw [← Nat.add_assoc]
   simp only [archR, jn, a1, a3, i1 i hi]
   rw [if_neg (by omega)]
  ·rw [← Nat.add_assoc]
   simp only [archR, jn, a1, a3, i2 j]
   by_cases hc : archR H.X k j = max (archR H.X k (H.X k 1)) (archR H.X k (H.X k 3))
   ·rw [if_pos hc, if_pos (by omega)]; omega
   ·rw [if_neg hc, if_neg (by omega)]
theorem IsUn.arR1 (h : IsUn G H U) (hG : GoodG G) (hH : GoodG H) {i : Nat} (hi : i < 2 * G.n) : arR U i = arR G i := by
 unfold arR
 rw [h.n]
 exact (h.arch2 hG hH H.n (Nat.le_refl _)).1 i hi
theorem IsUn.arR2 (h : IsUn G H U) (hG : GoodG G) (hH : GoodG H) (j : Nat) : arR U (2 * G.n + j) = arR H j + 2 * G.n := by
 unfold arR
 rw [h.n]
 exact (h.arch2 hG hH H.n (Nat.le_refl _)).2 j
theorem IsUn.cnt1 (h : IsUn G H U) (hG : GoodG G) (hH : GoodG H) {i : Nat} (hi : i ≤ 2 * G.n) : cntR (arR U) i = cntR (arR G) i := by
 unfold cntR
 exact cntP_congr fun b hb => by rw [h.arR1 hG hH (by omega)]
theorem IsUn.cnt2 (h : IsUn G H U) (hG : GoodG G) (hH : GoodG H) : ∀ j, cntR (arR U) (2 * G.n + j) = arC G + cntR (arR H) j := by
 intro j
 induction j with
 | zero => rw [Nat.add_zero, h.cnt1 hG hH (Nat.le_refl _)]; rfl
 | succ j ih =>
  rw [← Nat.add_assoc, cntR_succ, cntR_succ, ih, h.arR2 hG hH]
  by_cases hc : arR H j = j
  ·rw [if_pos hc, if_pos (by omega)]; omega
  ·rw [if_neg hc, if_neg (by omega)]
theorem IsUn.arN1 (h : IsUn G H U) (hG : GoodG G) (hH : GoodG H) {a : Nat} (ha : a < 2 * G.n) : arN U a = arN G a := by
 unfold arN
 have := (arR_rep G).le a
 rw [h.arR1 hG hH ha, h.cnt1 hG hH (by omega)]
theorem IsUn.arN2 (h : IsUn G H U) (hG : GoodG G) (hH : GoodG H) (a : Nat) : arN U (a + 2 * G.n) = arC G + arN H a := by
 unfold arN
 rw [Nat.add_comm a, h.arR2 hG hH, Nat.add_comm (arR H a), h.cnt2 hG hH]
theorem IsUn.arCs (h : IsUn G H U) (hG : GoodG G) (hH : GoodG H) : arC U = arC G + arC H := by
 have := h.cnt2 hG hH (2 * H.n)
 unfold arC at *
 rw [h.n, ← this]
 congr 1
 omega
theorem IsUn.rel1 (h : IsUn G H U) (hG : GoodG G) (hH : GoodG H) {i : Nat} (hi : i < G.n) : relOf U i = relOf G i := by
 have x : ∀ q, q < 4 → gen U (U.X i q) = gen G (G.X i q) := fun q hq => by
  unfold gen
  rw [h.X1 i q hi hq, h.arN1 hG hH (hG.X i q hi hq)]
 unfold relOf
 rw [x 0 (by omega), x 1 (by omega), x 2 (by omega), h.s1 i hi]
theorem IsUn.rel2 (h : IsUn G H U) (hG : GoodG G) (hH : GoodG H) {i : Nat} (hi : i < H.n) : relOf U (G.n + i) = (relOf H i).map (shL (arC G)) := by
 have x : ∀ q, q < 4 → gen U (U.X (G.n + i) q) = gen H (H.X i q) + arC G := fun q hq => by
  unfold gen
  rw [h.X2 i q hi hq, h.arN2 hG hH]
  omega
 have p : ∀ q, q < 4 → 1 ≤ gen H (H.X i q) := fun q hq => (gen_le hH hi hq).1
 have p0 := p 0 (by omega)
 have p1 := p 1 (by omega)
 have p2 := p 2 (by omega)
 unfold relOf
 rw [x 0 (by omega), x 1 (by omega), x 2 (by omega), h.s2 i hi]
 simp only [List.map_cons, List.map_nil, shL]
 rcases hH.sign i hi with e | e <;> rw [e]
 ·rw [if_neg (show ¬ 0 < -(gen H (H.X i 1)) * 1 by omega), if_pos (show 0 < gen H (H.X i 0) by omega), if_pos (show 0 < gen H (H.X i 1) * 1 by omega), if_neg (show ¬ 0 < -(gen H (H.X i 2)) by omega)]
  simp only [List.cons.injEq, and_true]
  refine ⟨?_, ?_, ?_, ?_⟩
  all_goals first | trivial | omega
 ·rw [if_pos (show 0 < -(gen H (H.X i 1)) * -1 by omega), if_pos (show 0 < gen H (H.X i 0) by omega), if_neg (show ¬ 0 < gen H (H.X i 1) * -1 by omega), if_neg (show ¬ 0 < -(gen H (H.X i 2)) by omega)]
  simp only [List.cons.injEq, and_true]
  refine ⟨?_, ?_, ?_, ?_⟩
  all_goals first | trivial | omega
noncomputable def homN (G : Dg) (k : Nat) : Nat := cntL (permL k) (arC G) fun B => ∀ i, i < G.n → TrivM k B (relOf G i)
theorem rel_ok (hG : GoodG G) {i : Nat} (hi : i < G.n) : ∀ y ∈ relOf G i, y ≠ 0 ∧ y.natAbs ≤ arC G := fun y hy => by
 obtain ⟨j, hj, he⟩ := List.getElem_of_mem hy
 have := relOf_let hG hi (Nat.le_refl _) j hj
 rw [nth_eq hj, he] at this
 exact ⟨this.1, by omega⟩
theorem cntD_hom (hG : GoodG G) (k : Nat) : cntD G k = homN G k * (permL k).length ^ G.L.toNat := by
 have hz : ∀ i, i < (relL G).length → nthR (relL G) i ≠ [] ∧ LetOk (genN G) (nthR (relL G) i) := fun i hi => by
  rw [relL_length] at hi
  rw [relL_nth hi]
  exact ⟨by simp [relOf], relOf_let hG hi (by unfold genN; omega)⟩
 unfold cntD
 rw [cntV_all hz]
 unfold genN homN
 rw [← cntL_true (P := permL k) (m := G.L.toNat) (p := fun _ => True) fun _ => trivial, ← cntL_mul]
 refine cntL_congr fun B hB => ?_
 rw [relL_length]
 have key : ∀ i, i < G.n → (TrivM k (B.take (arC G)) (relOf G i) ↔ TrivM k B (relOf G i)) := fun i hi => triv_same fun y hy => by
  obtain ⟨h1, h2⟩ := rel_ok hG hi y hy
  refine ⟨h1, ?_⟩
  simp only [nthR, List.getD_eq_getElem?_getD]
  rw [List.getElem?_take_of_lt (by omega)]
 constructor
 ·intro h
  exact ⟨fun i hi => (key i hi).2 (by have := h i hi; rwa [relL_nth hi] at this), trivial⟩
 ·intro h i hi
  rw [relL_nth hi]
  exact (key i hi).1 (h.1 i hi)
theorem IsUn.hom (h : IsUn G H U) (hG : GoodG G) (hH : GoodG H) (k : Nat) : homN U k = homN G k * homN H k := by
 unfold homN
 rw [h.arCs hG hH, ← cntL_mul]
 refine cntL_congr fun B hB => ?_
 rw [h.n]
 have k1 : ∀ i, i < G.n → (TrivM k (B.take (arC G)) (relOf G i) ↔ TrivM k B (relOf U i)) := fun i hi => by
  rw [h.rel1 hG hH hi]
  refine triv_same fun y hy => ?_
  obtain ⟨h1, h2⟩ := rel_ok hG hi y hy
  refine ⟨h1, ?_⟩
  simp only [nthR, List.getD_eq_getElem?_getD]
  rw [List.getElem?_take_of_lt (by omega)]
 have k2 : ∀ i, i < H.n → (TrivM k B (relOf U (G.n + i)) ↔ TrivM k (B.drop (arC G)) (relOf H i)) := fun i hi => by
  rw [h.rel2 hG hH hi]
  refine triv_congr fun y hy => ?_
  obtain ⟨h1, h2⟩ := rel_ok hH hi y hy
  refine ⟨h1, ?_⟩
  simp only [nthR, List.getD_eq_getElem?_getD]
  rw [List.getElem?_drop, Nat.add_comm]
 constructor
 ·intro hh
  exact ⟨fun i hi => (k1 i hi).2 (hh i (by omega)), fun i hi => (k2 i hi).1 (hh _ (by omega))⟩
 ·rintro ⟨h1, h2⟩ i hi
  by_cases hc : i < G.n
  ·exact (k1 i hc).1 (h1 i hc)
  ·have := (k2 (i - G.n) (by omega)).2 (h2 _ (by omega))
   rwa [show G.n + (i - G.n) = i by omega] at this
theorem IsUn.cnt (h : IsUn G H U) (hG : GoodG G) (hH : GoodG H) (hU : GoodG U) (k : Nat) : cntD U k = cntD G k * cntD H k := by
 rw [cntD_hom hG, cntD_hom hH, cntD_hom hU, h.hom hG hH, h.L]
 have h1 := hG.loops
 have h2 := hH.loops
 rw [show (G.L + H.L).toNat = G.L.toNat + H.L.toNat by omega, Nat.pow_add]
 simp only [Nat.mul_assoc, Nat.mul_left_comm, Nat.mul_comm]
end Go.Proofs.Ytjlkndkedknocaa
namespace Go.Ai
attribute [local instance] Classical.propDecidable
theorem leastP {P : Nat → Prop} (h : ∃ m, P m) : ∃ m, P m ∧ ∀ k, k < m → ¬ P k := by
 obtain ⟨m, hm⟩ := h
 induction m using Nat.strongRecOn with
 | ind m ih =>
  by_cases hk : ∃ k, k < m ∧ P k
  ·obtain ⟨k, h1, h2⟩ := hk
   exact ih k h1 h2
  ·exact ⟨m, hm, fun k h1 h2 => hk ⟨k, h1, h2⟩⟩
theorem cnt_remove {q : Nat → Prop} {v : Nat} (hq : q v) : ∀ {M : Nat}, v < M → cntP (fun x => q x ∧ x ≠ v) M + 1 = cntP q M := by
 intro M
 induction M with
 | zero => intro h; omega
 | succ M ih =>
  intro h
  simp only [cntP]
  by_cases e : v = M
  ·subst e
   rw [if_pos hq, if_neg (fun h => h.2 rfl), cntP_congr (q := q) fun i hi => ⟨fun h => h.1, fun h => ⟨h, by omega⟩⟩]
  ·have := ih (by omega)
   by_cases hm : q M
   ·rw [if_pos hm, if_pos ⟨hm, fun e' => e e'.symm⟩]; omega
   ·rw [if_neg hm, if_neg (fun h => hm h.1)]; omega
theorem cnt_inj {M' : Nat} (φ : Nat → Nat) {q : Nat → Prop} : ∀ {M : Nat} {q' : Nat → Prop}, (∀ a, a < M → q a → φ a < M' ∧ q' (φ a)) → (∀ a b, a < M → b < M → q a → q b → φ a = φ b → a = b) → cntP q M ≤ cntP q' M' := by
 intro M
 induction M with
 | zero => intro q' _ _; simp [cntP]
 | succ M ih =>
  intro q' h1 h2
  simp only [cntP]
  by_cases hm : q M
  ·obtain ⟨k1, k2⟩ := h1 M (by omega) hm
   have hr := cnt_remove k2 k1
   have hi := ih (q' := fun x => q' x ∧ x ≠ φ M) (fun a ha hq => by
    obtain ⟨z1, z2⟩ := h1 a (by omega) hq
    exact ⟨z1, z2, fun e => by have := h2 a M (by omega) (by omega) hq hm e; omega⟩) (fun a b ha hb => h2 a b (by omega) (by omega))
   rw [if_pos hm]; omega
  ·rw [if_neg hm]
   exact ih (fun a ha => h1 a (by omega)) (fun a b ha hb => h2 a b (by omega) (by omega))
noncomputable def clsP (M : Nat) (R : Nat → Nat → Prop) (p : Nat → Prop) : Nat := cntP (fun j => p j ∧ ∀ i, i < j → ¬ R i j) M
structure EqvN (M : Nat) (R : Nat → Nat → Prop) : Prop where
 refl : ∀ a, a < M → R a a
 symm : ∀ a b, a < M → b < M → R a b → R b a
 trans : ∀ a b c, a < M → b < M → c < M → R a b → R b c → R a c
theorem cls_le {M M' : Nat} {R R' : Nat → Nat → Prop} {p p' : Nat → Prop} (φ : Nat → Nat) (hR : EqvN M R) (hR' : EqvN M' R') (h1 : ∀ a, a < M → p a → φ a < M' ∧ p' (φ a)) (h2 : ∀ a b, a < M → b < M → p a → p b → R' (φ a) (φ b) → R a b) (hp : ∀ x y, x < M' → y < M' → R' x y → p' x → p' y) : clsP M R p ≤ clsP M' R' p' := by
 have hex : ∀ a, ∃ m, a < M → p a → (m ≤ φ a ∧ R' m (φ a) ∧ ∀ k, k < m → ¬ R' k (φ a)) := fun a => by
  by_cases ha : a < M ∧ p a
  ·have hφ := (h1 a ha.1 ha.2).1
   obtain ⟨m, hm, hl⟩ := leastP (P := fun m => R' m (φ a)) ⟨φ a, hR'.refl _ hφ⟩
   refine ⟨m, fun _ _ => ⟨?_, hm, hl⟩⟩
   rcases Nat.lt_or_ge (φ a) m with h | h
   ·exact absurd (hR'.refl _ hφ) (hl _ h)
   ·exact h
  ·exact ⟨0, fun h h' => absurd ⟨h, h'⟩ ha⟩
 unfold clsP
 refine cnt_inj (fun a => (hex a).choose) (fun a ha hq => ?_) (fun a b ha hb hqa hqb he => ?_)
 ·obtain ⟨k1, k2, k3⟩ := (hex a).choose_spec ha hq.1
  obtain ⟨z1, z2⟩ := h1 a ha hq.1
  have hm : (hex a).choose < M' := by omega
  refine ⟨hm, hp _ _ z1 hm (hR'.symm _ _ hm z1 k2) z2, fun i hi hr => k3 i hi (hR'.trans _ _ _ (by omega) hm z1 hr k2)⟩
 ·obtain ⟨k1, k2, _⟩ := (hex a).choose_spec ha hqa.1
  obtain ⟨l1, l2, _⟩ := (hex b).choose_spec hb hqb.1
  have za := (h1 a ha hqa.1).1
  have zb := (h1 b hb hqb.1).1
  have he : (hex a).choose = (hex b).choose := he
  rw [← he] at l2 l1
  have hm : (hex a).choose < M' := by omega
  have hr := h2 a b ha hb hqa.1 hqb.1 (hR'.trans _ _ _ za hm zb (hR'.symm _ _ hm za k2) l2)
  rcases Nat.lt_trichotomy a b with h | h | h
  ·exact absurd hr (hqb.2 a h)
  ·exact h
  ·exact absurd (hR.symm _ _ ha hb hr) (hqa.2 b h)
end Go.Ai
namespace Go.Proofs.Ytjlkndkedknocaa
open Go Go.Ai
attribute [local instance] Classical.propDecidable
def SameR (G : Dg) (x y : Nat × Nat) : Prop := ∃ t, orb G x t = y
theorem SameR.refl (G : Dg) (x : Nat × Nat) : SameR G x x := ⟨0, rfl⟩
theorem SameR.trans {G : Dg} {x y z : Nat × Nat} (h : SameR G x y) (k : SameR G y z) : SameR G x z := by
 obtain ⟨s, rfl⟩ := h
 obtain ⟨t, rfl⟩ := k
 exact ⟨s + t, orb_add x s t⟩
theorem orb_mul {G : Dg} {x : Nat × Nat} {P : Nat} (hP : orb G x P = x) : ∀ k, orb G x (k * P) = x := by
 intro k
 induction k with
 | zero => simp [orb]
 | succ k ih => rw [Nat.succ_mul, orb_add, ih, hP]
theorem SameR.symm {G : Dg} (hG : GoodG G) {x y : Nat × Nat} (hx : InV G x) (h : SameR G x y) : SameR G y x := by
 obtain ⟨t, rfl⟩ := h
 obtain ⟨P, ⟨p1, p2, p3⟩, _⟩ := orb_period hG hx
 refine ⟨t * P - t, ?_⟩
 have : t ≤ t * P := Nat.le_mul_of_pos_right t p1
 rw [← orb_add, show t + (t * P - t) = t * P by omega]
 exact orb_mul p2 t
theorem SameR.step (G : Dg) (x : Nat × Nat) : SameR G x (nxt G x) := ⟨1, rfl⟩
theorem SameR.conn {G : Dg} (hG : GoodG G) {x y : Nat × Nat} (hx : InV G x) (h : SameR G x y) : Conn G x.1 y.1 := by
 obtain ⟨t, rfl⟩ := h
 induction t with
 | zero => exact .refl _
 | succ t ih =>
  have := orb_inV hG hx t
  exact ih.step (orb G x t).2 this.2.1
theorem mem_orbL {G : Dg} (hG : GoodG G) {x e : Nat × Nat} (hx : InV G x) : e ∈ orbL G x ↔ SameR G x e := by
 obtain ⟨⟨p1, p2, p3⟩, _⟩ := per_spec hG hx
 unfold orbL orbN
 rw [List.mem_map]
 constructor
 ·rintro ⟨i, _, rfl⟩; exact ⟨i, rfl⟩
 ·rintro ⟨t, rfl⟩
  refine ⟨t % per G x, List.mem_range.2 (Nat.mod_lt _ p1), ?_⟩
  have e : t = t / per G x * per G x + t % per G x := by have := Nat.div_add_mod t (per G x); rw [Nat.mul_comm] at this; omega
  have h := orb_add (G := G) x (t / per G x * per G x) (t % per G x)
  rw [← e, orb_mul p2] at h
  exact h.symm
theorem endOf_inV {G : Dg} (hG : GoodG G) {j : Nat} (hj : j < 4 * G.n) : InV G (endOf j) := hG.inV (by simp [endOf]; omega) (by simp [endOf]; omega)
theorem mem_vis {G : Dg} (hG : GoodG G) : ∀ j, j ≤ 4 * G.n → ∀ e, (e ∈ (vis G j).1 ↔ ∃ i, i < j ∧ SameR G (endOf i) e) := by
 intro j
 induction j with
 | zero => intro _ e; simp [vis]
 | succ j ih =>
  intro hj e
  have ih' := ih (by omega)
  simp only [vis]
  have hv := endOf_inV hG (show j < 4 * G.n by omega)
  split
  ·rename_i hm
   rw [ih']
   constructor
   ·rintro ⟨i, h1, h2⟩; exact ⟨i, by omega, h2⟩
   ·rintro ⟨i, h1, h2⟩
    by_cases h : i < j
    ·exact ⟨i, h, h2⟩
    ·obtain rfl : i = j := by omega
     obtain ⟨i', k1, k2⟩ := (ih' _).1 hm
     exact ⟨i', k1, k2.trans h2⟩
  ·rw [List.mem_append, mem_orbL hG hv, ih']
   constructor
   ·rintro (⟨i, h1, h2⟩ | h)
    ·exact ⟨i, by omega, h2⟩
    ·exact ⟨j, by omega, h⟩
   ·rintro ⟨i, h1, h2⟩
    by_cases h : i < j
    ·exact .inl ⟨i, h, h2⟩
    ·obtain rfl : i = j := by omega
     exact .inr h2
def RegN (G : Dg) (i j : Nat) : Prop := SameR G (endOf i) (endOf j)
theorem RegN.eqv {G : Dg} (hG : GoodG G) : EqvN (4 * G.n) (RegN G) :=
 ⟨fun a _ => .refl _ _, fun a b ha _ h => h.symm hG (endOf_inV hG ha), fun a b c _ _ _ h k => h.trans k⟩
theorem regs_cls {G : Dg} (hG : GoodG G) (U : Nat → Prop) : cntP (fun t => U (rhead G t)) (regs G).length = clsP (4 * G.n) (RegN G) (fun j => U (j / 4)) := by
 have key : ∀ j, j ≤ 4 * G.n → cntP (fun t => U ((((vis G j).2.getD t []).headD (0, 0)).1)) (vis G j).2.length = cntP (fun j => U (j / 4) ∧ ∀ i, i < j → ¬ RegN G i j) j := by
  intro j
  induction j with
  | zero => intro _; simp [vis, cntP]
  | succ j ih =>
   intro hj
   have ih' := ih (by omega)
   have hv := endOf_inV hG (show j < 4 * G.n by omega)
   have hm := mem_vis hG j (by omega) (endOf j)
   simp only [vis, cntP]
   split
   ·rename_i h
    obtain ⟨i, k1, k2⟩ := hm.1 h
    rw [if_neg (fun h' => h'.2 i k1 k2), ih']
    rfl
   ·rename_i h
    have hn : ∀ i, i < j → ¬ RegN G i j := fun i hi hr => h (hm.2 ⟨i, hi, hr⟩)
    obtain ⟨l, hl⟩ := orbL_head hG hv
    simp only [List.length_append, List.length_cons, List.length_nil, cntP, Nat.zero_add]
    have e1 : cntP (fun t => U (((((vis G j).2 ++ [orbL G (endOf j)]).getD t []).headD (0, 0)).1)) (vis G j).2.length = cntP (fun t => U ((((vis G j).2.getD t []).headD (0, 0)).1)) (vis G j).2.length := cntP_congr fun t ht => by
     simp only [List.getD_eq_getElem?_getD]
     rw [List.getElem?_append_left ht]
    have e2 : ((((vis G j).2 ++ [orbL G (endOf j)]).getD (vis G j).2.length []).headD (0, 0)).1 = j / 4 := by
     simp only [List.getD_eq_getElem?_getD]
     rw [List.getElem?_append_right (Nat.le_refl _), Nat.sub_self, hl]
     rfl
    rw [e1, ih', e2]
    by_cases hu : U (j / 4)
    ·rw [if_pos hu, if_pos ⟨hu, hn⟩]
    ·rw [if_neg hu, if_neg (fun h => hu h.1)]
 exact key _ (Nat.le_refl _)
theorem regs_le {G H : Dg} (hG : GoodG G) (hH : GoodG H) (φ : Nat × Nat → Nat × Nat) {c d : Nat} (hc : c < G.n) (hd : d < H.n) (h1 : ∀ x, InV G x → Conn G c x.1 → InV H (φ x) ∧ Conn H d (φ x).1) (h2 : ∀ x y, InV G x → InV G y → Conn G c x.1 → Conn G c y.1 → SameR H (φ x) (φ y) → SameR G x y) :
  cntP (fun t => Conn G c (rhead G t)) (regs G).length ≤ cntP (fun t => Conn H d (rhead H t)) (regs H).length := by
 rw [regs_cls hG, regs_cls hH]
 have he : ∀ x : Nat × Nat, x.2 < 4 → endOf (4 * x.1 + x.2) = x := fun x hx => by
  unfold endOf
  exact Prod.ext (by simp; omega) (by simp; omega)
 refine cls_le (fun j => 4 * (φ (endOf j)).1 + (φ (endOf j)).2) (RegN.eqv hG) (RegN.eqv hH) (fun a ha hp => ?_) (fun a b ha hb hpa hpb hr => ?_) fun x y hx hy hr hp => ?_
 ·obtain ⟨k1, k2⟩ := h1 _ (endOf_inV hG ha) hp
  have := k1.1
  have := k1.2.1
  refine ⟨by omega, ?_⟩
  rw [show (4 * (φ (endOf a)).1 + (φ (endOf a)).2) / 4 = (φ (endOf a)).1 by omega]
  exact k2
 ·obtain ⟨k1, _⟩ := h1 _ (endOf_inV hG ha) hpa
  obtain ⟨l1, _⟩ := h1 _ (endOf_inV hG hb) hpb
  unfold RegN at hr
  rw [he _ k1.2.1, he _ l1.2.1] at hr
  exact h2 _ _ (endOf_inV hG ha) (endOf_inV hG hb) hpa hpb hr
 ·exact hp.trans (SameR.conn hH (endOf_inV hH hx) hr)
end Go.Proofs.Ytjlkndkedknocaa
namespace Go.Proofs.Ytjlkndkedknocaa
open Go Go.Ai
attribute [local instance] Classical.propDecidable
theorem oth_ne {G : Dg} (hG : GoodG G) {x : Nat × Nat} (hx : InV G x) : oth G x ≠ x := by
 obtain ⟨t0, t1, t2, t3, t4, t5, t6⟩ := hG.T _ hx.2.2
 unfold oth
 intro h
 split at h
 ·rename_i hc
  have e1 := congrArg Prod.fst h
  have e2 := congrArg Prod.snd h
  simp only at e1 e2
  exact t6 ⟨by rw [hc.1, e1], by rw [hc.2, e2]⟩
 ·rename_i hc
  have e1 := congrArg Prod.fst h
  have e2 := congrArg Prod.snd h
  simp only at e1 e2
  exact hc ⟨e1, e2⟩
theorem oth_is {G : Dg} (hG : GoodG G) {x y : Nat × Nat} (hx : InV G x) (hy : InV G y) (hn : x ≠ y) (hX : G.X x.1 x.2 = G.X y.1 y.2) : oth G x = y := by
 have c1 := hG.cover x.1 x.2 hx.1 hx.2.1
 have c2 := hG.cover y.1 y.2 hy.1 hy.2.1
 rw [← hX] at c2
 unfold oth
 have hne : ¬ (x.1 = y.1 ∧ x.2 = y.2) := fun h => hn (Prod.ext h.1 h.2)
 split
 ·rename_i hc
  refine Prod.ext ?_ ?_ <;> simp only <;> omega
 ·rename_i hc
  refine Prod.ext ?_ ?_ <;> simp only <;> omega
def rot3 (x : Nat × Nat) : Nat × Nat := (x.1, (x.2 + 3) % 4)
theorem nxt_rot (G : Dg) (x : Nat × Nat) : nxt G x = rot3 (oth G x) := rfl
structure PlMap (G H : Dg) (κ : Nat → Nat) (φ : Nat × Nat → Nat × Nat) : Prop where
 into : ∀ x, InV G x → InV H (φ x) ∧ (φ x).1 = κ x.1
 oth : ∀ x, InV G x → φ (oth G x) = oth H (φ x)
 rot : ∀ x, InV G x → φ (rot3 x) = rot3 (φ x)
 inj : ∀ x y, InV G x → InV G y → φ x = φ y → x = y
 injK : ∀ a b, a < G.n → b < G.n → κ a = κ b → a = b
 onto : ∀ c q, c < G.n → q < 4 → ∃ p, p < 4 ∧ φ (c, p) = (κ c, q)
namespace PlMap
variable {G H : Dg} {κ : Nat → Nat} {φ : Nat × Nat → Nat × Nat} (h : PlMap G H κ φ) (hG : GoodG G) (hH : GoodG H)
include h hG hH
omit hH in
theorem orb {x : Nat × Nat} (hx : InV G x) : ∀ t, φ (orb G x t) = Go.Proofs.Ytjlkndkedknocaa.orb H (φ x) t := by
 intro t
 induction t with
 | zero => rfl
 | succ t ih =>
  have hv := orb_inV hG hx t
  have ho := (oth_spec hG hv).1
  simp only [Go.Proofs.Ytjlkndkedknocaa.orb]
  rw [nxt_rot, nxt_rot, h.rot _ ho, h.oth _ hv, ih]
omit hH in
theorem lt {c : Nat} (hc : c < G.n) : κ c < H.n := by
 have := h.into (c, 0) (hG.inV hc (by omega))
 rw [← this.2]
 exact this.1.1
omit hH in
theorem conn {c d : Nat} (hc : c < G.n) (k : Conn G c d) : Conn H (κ c) (κ d) := by
 induction k with
 | refl => exact .refl _
 | @step b q hb hq ih =>
  have hbl := hb.lt hG hc
  have hv := hG.inV (x := (b, q)) hbl hq
  obtain ⟨z1, z2⟩ := h.into _ hv
  have e := h.oth _ hv
  have o := oth_spec hG hv
  have z3 := (h.into _ o.1).2
  rw [← z3, e]
  have := ih.step (φ (b, q)).2 z1.2.1
  simp only at z2
  rwa [show (κ b, (φ (b, q)).2) = φ (b, q) from Prod.ext z2.symm rfl] at this
omit hH in
theorem back {c : Nat} (hc : c < G.n) {d : Nat} (k : Conn H (κ c) d) : ∃ a, a < G.n ∧ Conn G c a ∧ κ a = d := by
 induction k with
 | refl => exact ⟨c, hc, .refl _, rfl⟩
 | @step b q hb hq ih =>
  obtain ⟨a, ha, hca, rfl⟩ := ih
  obtain ⟨p, hp, hpe⟩ := h.onto a q ha hq
  have hv := hG.inV (x := (a, p)) ha hp
  have o := oth_spec hG hv
  refine ⟨(Go.Proofs.Ytjlkndkedknocaa.oth G (a, p)).1, o.1.1, hca.step p hp, ?_⟩
  rw [← (h.into _ o.1).2, h.oth _ hv, hpe]
omit hH in
theorem backP {c : Nat} (hc : c < G.n) {y : Nat × Nat} (hy : InV H y) (k : Conn H (κ c) y.1) : ∃ x, InV G x ∧ Conn G c x.1 ∧ φ x = y := by
 obtain ⟨a, ha, hca, he⟩ := h.back hG hc k
 obtain ⟨p, hp, hpe⟩ := h.onto a y.2 ha hy.2.1
 refine ⟨(a, p), hG.inV ha hp, hca, ?_⟩
 rw [hpe, he]
theorem plan {c : Nat} (hc : c < G.n) : cntP (fun t => Conn G c (rhead G t)) (regs G).length = cntP (fun t => Conn H (κ c) (rhead H t)) (regs H).length ∧ cntP (fun i => Conn G c i) G.n = cntP (fun i => Conn H (κ c) i) H.n := by
 have hd := h.lt hG hc
 have hex : ∀ y, ∃ x, InV H y → Conn H (κ c) y.1 → InV G x ∧ Conn G c x.1 ∧ φ x = y := fun y => by
  by_cases hy : InV H y ∧ Conn H (κ c) y.1
  ·obtain ⟨x, hx⟩ := h.backP hG hc hy.1 hy.2
   exact ⟨x, fun _ _ => hx⟩
  ·exact ⟨(0, 0), fun a b => absurd ⟨a, b⟩ hy⟩
 have hexK : ∀ d, ∃ a, Conn H (κ c) d → a < G.n ∧ Conn G c a ∧ κ a = d := fun d => by
  by_cases hy : Conn H (κ c) d
  ·obtain ⟨x, hx⟩ := h.back hG hc hy
   exact ⟨x, fun _ => hx⟩
  ·exact ⟨0, fun a => absurd a hy⟩
 constructor
 ·refine Nat.le_antisymm (regs_le hG hH φ hc hd (fun x hx k => ⟨(h.into x hx).1, by rw [(h.into x hx).2]; exact h.conn hG hc k⟩) fun x y hx hy _ _ hs => ?_) (regs_le hH hG (fun y => (hex y).choose) hd hc (fun y hy k => ?_) fun x y hx hy kx ky hs => ?_)
  ·obtain ⟨t, ht⟩ := hs
   rw [← h.orb hG hx] at ht
   exact ⟨t, h.inj _ _ (orb_inV hG hx t) hy ht⟩
  ·obtain ⟨z1, z2, _⟩ := (hex y).choose_spec hy k
   exact ⟨z1, z2⟩
  ·obtain ⟨z1, _, z3⟩ := (hex x).choose_spec hx kx
   obtain ⟨w1, _, w3⟩ := (hex y).choose_spec hy ky
   obtain ⟨t, ht⟩ := hs
   refine ⟨t, ?_⟩
   rw [← z3, ← h.orb hG z1, ht, w3]
 ·refine Nat.le_antisymm (cnt_inj κ (fun a ha k => ⟨h.lt hG ha, h.conn hG hc k⟩) fun a b ha hb _ _ e => h.injK a b ha hb e) (cnt_inj (fun d => (hexK d).choose) (fun a ha k => ?_) fun a b ha hb ka kb e => ?_)
  ·obtain ⟨z1, z2, _⟩ := (hexK a).choose_spec k
   exact ⟨z1, z2⟩
  ·obtain ⟨_, _, z3⟩ := (hexK a).choose_spec ka
   obtain ⟨_, _, w3⟩ := (hexK b).choose_spec kb
   have e : (hexK a).choose = (hexK b).choose := e
   rw [← z3, e, w3]
end PlMap
def PlanAt (G : Dg) (c : Nat) : Prop := cntP (fun t => Conn G c (rhead G t)) (regs G).length = 2 + cntP (fun i => Conn G c i) G.n
theorem PlMap.at_ {G H : Dg} {κ : Nat → Nat} {φ : Nat × Nat → Nat × Nat} (h : PlMap G H κ φ) (hG : GoodG G) (hH : GoodG H) {c : Nat} (hc : c < G.n) : PlanAt G c ↔ PlanAt H (κ c) := by
 unfold PlanAt
 obtain ⟨h1, h2⟩ := h.plan hG hH hc
 rw [h1, h2]
end Go.Proofs.Ytjlkndkedknocaa
namespace Go.Proofs.Ytjlkndkedknocaa
open Go Go.Ai
attribute [local instance] Classical.propDecidable
theorem IsUn.map1 {G H U : Dg} (h : IsUn G H U) (hG : GoodG G) (hU : GoodG U) : PlMap G U (fun c => c) (fun x => x) := by
 have hi : ∀ x, InV G x → InV U x := fun x hx => hU.inV (by have := hx.1; have := h.n; omega) hx.2.1
 refine ⟨fun x hx => ⟨hi x hx, rfl⟩, fun x hx => ?_, fun x _ => rfl, fun x y _ _ e => e, fun a b _ _ e => e, fun c q _ hq => ⟨q, hq, rfl⟩⟩
 obtain ⟨o1, o2, o3⟩ := oth_spec hG hx
 refine (oth_is hU (hi x hx) (hi _ o1) (fun e => oth_ne hG hx e.symm) ?_).symm
 rw [h.X1 _ _ hx.1 hx.2.1, h.X1 _ _ o1.1 o1.2.1, o3]
theorem IsUn.map2 {G H U : Dg} (h : IsUn G H U) (hH : GoodG H) (hU : GoodG U) : PlMap H U (fun c => G.n + c) (fun x => (G.n + x.1, x.2)) := by
 have hi : ∀ x, InV H x → InV U (G.n + x.1, x.2) := fun x hx => hU.inV (by have := hx.1; have := h.n; simp only; omega) hx.2.1
 refine ⟨fun x hx => ⟨hi x hx, rfl⟩, fun x hx => ?_, fun x _ => rfl, fun x y _ _ e => ?_, fun a b _ _ e => by omega, fun c q _ hq => ⟨q, hq, rfl⟩⟩
 ·obtain ⟨o1, o2, o3⟩ := oth_spec hH hx
  refine (oth_is hU (hi x hx) (hi _ o1) (fun e => oth_ne hH hx ?_) ?_).symm
  ·simp only [Prod.mk.injEq] at e
   exact Prod.ext (by omega) e.2.symm
  ·simp only
   rw [h.X2 _ _ hx.1 hx.2.1, h.X2 _ _ o1.1 o1.2.1, o3]
 ·simp only [Prod.mk.injEq] at e
  exact Prod.ext (by omega) e.2
theorem IsUn.plan {G H U : Dg} (h : IsUn G H U) (hG : GoodG G) (hH : GoodG H) (hU : GoodG U) (pG : PlanG G) (pH : PlanG H) : PlanG U := fun c hc => by
 by_cases hl : c < G.n
 ·exact ((h.map1 hG hU).at_ hG hU hl).1 (pG c hl)
 ·have := h.n
  have h2 := ((h.map2 hH hU).at_ hH hU (c := c - G.n) (by omega)).1 (pH _ (by omega))
  rwa [show G.n + (c - G.n) = c by omega] at h2
section
variable {n n' : Nat} {x x' : Nat → Nat → Int} {s s' : Nat → Int} {L L' : Int}
theorem use_un1 {j : Nat} (hj : j < 4 * n) : use (unX n x x') (unS n s s') j = use x s j := by
 unfold use unX unS
 rw [if_pos (by omega), if_pos (by omega)]
theorem use_un2 (j : Nat) : use (unX n x x') (unS n s s') (4 * n + j) = ((use x' s' j).1 + 2 * n, (use x' s' j).2) := by
 unfold use unX unS
 rw [if_neg (by omega), if_neg (by omega), show (4 * n + j) / 4 = n + j / 4 by omega, show (4 * n + j) % 4 = j % 4 by omega, Nat.add_sub_cancel_left]
theorem snd_un (h : Snd n x s L) (h' : Snd n' x' s' L') (hs : n + n' ≤ 200) (hL : L + L' ≤ 200) : Snd (n + n') (unX n x x') (unS n s s') (L + L') := by
 have sp : ∀ j, j < 4 * (n + n') → (j < 4 * n ∧ use (unX n x x') (unS n s s') j = use x s j) ∨ (4 * n ≤ j ∧ use (unX n x x') (unS n s s') j = ((use x' s' (j - 4 * n)).1 + 2 * n, (use x' s' (j - 4 * n)).2)) := fun j hj => by
  by_cases hl : j < 4 * n
  ·exact .inl ⟨hl, use_un1 hl⟩
  ·have := use_un2 (n := n) (x := x) (x' := x') (s := s) (s' := s') (j - 4 * n)
   rw [show 4 * n + (j - 4 * n) = j by omega] at this
   exact .inr ⟨by omega, this⟩
 refine ⟨hs, ⟨by have := h.loops; have := h'.loops; omega, hL⟩, fun c hc => ?_, fun j hj => ?_, fun i j hij hj e => ?_⟩
 ·unfold unS
  split
  ·exact h.sign c (by assumption)
  ·exact h'.sign _ (by omega)
 ·rcases sp j hj with ⟨h1, h2⟩ | ⟨h1, h2⟩ <;> rw [h2]
  ·have := h.range j h1; omega
  ·have := h'.range (j - 4 * n) (by omega); simp only; omega
 ·rcases sp i (by omega) with ⟨h1, h2⟩ | ⟨h1, h2⟩ <;> rcases sp j hj with ⟨h3, h4⟩ | ⟨h3, h4⟩ <;> rw [h2, h4] at e
  ·exact h.dist i j hij h3 e
  ·have r := h.range i h1
   have r' := h'.range (j - 4 * n) (by omega)
   have := congrArg Prod.fst e
   simp only at this
   omega
  ·omega
  ·refine h'.dist (i - 4 * n) (j - 4 * n) (by omega) (by omega) (Prod.ext ?_ ?_)
   ·have := congrArg Prod.fst e
    simp only at this
    omega
   ·have := congrArg Prod.snd e
    exact this
theorem isUn (h : Snd n x s L) (h' : Snd n' x' s' L') : IsUn (dgOf n x s L) (dgOf n' x' s' L') (dgOf (n + n') (unX n x x') (unS n s s') (L + L')) := by
 refine ⟨rfl, fun i q hi hq => ?_, fun i q hi hq => ?_, fun i hi => ?_, fun i hi => ?_, rfl⟩
 ·show (unX n x x' i q).toNat = (x i q).toNat
  unfold unX
  rw [if_pos (show i < n from hi)]
 ·have hi : i < n' := hi
  have := sound_x h' hi hq
  show (unX n x x' (n + i) q).toNat = (x' i q).toNat + 2 * n
  unfold unX
  rw [if_neg (by omega), Nat.add_sub_cancel_left]
  omega
 ·show unS n s s' i = s i
  unfold unS
  exact if_pos hi
 ·show unS n s s' (n + i) = s' i
  unfold unS
  rw [if_neg (by omega), Nat.add_sub_cancel_left]
theorem kind_un (h : kindD n x s L = 0) (h' : kindD n' x' s' L' = 0) (hs : n + n' ≤ 200) (hL : L + L' ≤ 200) : kindD (n + n') (unX n x x') (unS n s s') (L + L') = 0 ∧ ∀ k, cntD (dgOf (n + n') (unX n x x') (unS n s s') (L + L')) k = cntD (dgOf n x s L) k * cntD (dgOf n' x' s' L') k := by
 obtain ⟨S, P⟩ := kind_zero h
 obtain ⟨S', P'⟩ := kind_zero h'
 have hU := snd_un S S' hs hL
 have gU := good_of hU
 have u := isUn S S'
 exact ⟨kind_ok hU (u.plan (good_of S) (good_of S') gU P P'), u.cnt (good_of S) (good_of S') gU⟩
end
end Go.Proofs.Ytjlkndkedknocaa
namespace Go.Proofs.Ytjlkndkedknocaa
open Go Go.Ai
attribute [local instance] Classical.propDecidable
theorem countA_bad {n : Nat} {x : Nat → Nat → Int} {s : Nat → Int} {L k : Int} (h : kindD n x s L ≠ 0) : countA n x s L k = (0, kindD n x s L) := by unfold countA; rw [if_pos h]
theorem countA_good {n : Nat} {x : Nat → Nat → Int} {s : Nat → Int} {L k : Int} (h : kindD n x s L = 0) : (¬ (1 ≤ k ∧ k ≤ 6) ∧ countA n x s L k = (0, 1)) ∨ ((1 ≤ k ∧ k ≤ 6) ∧ countA n x s L k = (0, 2)) ∨ ((1 ≤ k ∧ k ≤ 6) ∧ FewA (permL k.toNat).length (genN (dgOf n x s L)) ∧ countA n x s L k = ((cntD (dgOf n x s L) k.toNat : Int), 0)) := by
 unfold countA
 rw [if_neg (by simp [h])]
 by_cases hk : 1 ≤ k ∧ k ≤ 6
 ·rw [if_neg (fun h => h hk)]
  by_cases hf : FewA (permL k.toNat).length (genN (dgOf n x s L))
  ·rw [if_neg (fun h => h hf)]; exact .inr (.inr ⟨hk, hf, rfl⟩)
  ·rw [if_pos hf]; exact .inr (.inl ⟨hk, rfl⟩)
 ·rw [if_pos hk]; exact .inl ⟨hk, rfl⟩
theorem cntD_few {G : Dg} {k : Nat} (h : FewA (permL k).length (genN G)) : cntD G k ≤ 2000000 := by
 unfold cntD
 refine Nat.le_trans (cntV_le _ _ _ _ _) ?_
 cases hg : genN G with
 | zero => simp
 | succ g => exact h g (by omega)
theorem law9 {E : Env} (hW : WE E) {h0 : List O} {a a' : Option Addr} {n c n' c' : Nat} {x x' : Nat → Nat → Int} {s s' : Nat → Int} {L L' k : Int} (hx : CrossP h0 a n x s) (hx' : CrossP h0 a' n' x' s') :
  DR E 9 [dV a n c L, dV a' n' c' L', .int .i64 k] ⟨h0, h0.length⟩ (.ret (.bool true)) ⟨h0, h0.length⟩ := by
 have hE := hW.oe
 refine hE.fn (body := rb9) rfl ?_
 unfold rb9
 have hsc : (Out.ret (.bool true)).scalar = true := rfl
 obtain ⟨h1, hh1⟩ : ∃ H, H = h0 ++ [O.cells [.slice a n c, .int .i64 L] 24 (some 0), O.cells [.slice a' n' c', .int .i64 L'] 24 (some 0)] := ⟨_, rfl⟩
 obtain ⟨P, hP⟩ : ∃ P, P = h0.length + 1 := ⟨_, rfl⟩
 have s1 : Sub h0 h1 := by rw [hh1]; exact (Sub.refl _).app _
 have l1 : h1.length = h0.length + 2 := by rw [hh1]; simp
 have b1 : h1[h0.length]? = some (O.cells [.slice a n c, .int .i64 L] 24 (some 0)) := by rw [hh1, app_at0]; rfl
 have c1 : h1[P]? = some (O.cells [.slice a' n' c', .int .i64 L'] 24 (some 0)) := by rw [hh1, hP, app_at]; rfl
 have q56 := saneW_ hW (h0 := h1)
 have hj1 : joined ⟨h1, h0.length⟩ ⟨h1, h1.length⟩ = ⟨h1, h0.length⟩ := joined_mk _ _
 simp [dV, List.append_assoc, ↓← hh1]
 rw [← hP]
 by_cases hn : 30 < n
 ·have hn' : 30 < (n : Int) := by omega
  simp [rd_def, b1, c1, hn, hn', DC_of q56, hj1, endK_ret, back, hsc]
 have hn' : ¬ 30 < (n : Int) := by omega
 by_cases hm : 30 < n'
 ·have hm' : 30 < (n' : Int) := by omega
  simp [rd_def, b1, c1, hn, hn', hm, hm', DC_of q56, hj1, endK_ret, back, hsc]
 have hm' : ¬ 30 < (n' : Int) := by omega
 have hx1 := hx.sub s1
 have hy1 := hx'.sub s1
 have q57 := countW_ hE hW.kept (c := c) (L := L) (k := k) hx1
 have q58 := checkR_ hE (c := c) (L := L) hx1
 obtain ⟨cn, hcn⟩ : ∃ cn, cn = (countA n x s L k).1 := ⟨_, rfl⟩
 obtain ⟨ce, hce⟩ : ∃ ce, ce = (countA n x s L k).2 := ⟨_, rfl⟩
 obtain ⟨dn, hdn⟩ : ∃ dn, dn = (countA n' x' s' L' k).1 := ⟨_, rfl⟩
 obtain ⟨de, hde⟩ : ∃ de, de = (countA n' x' s' L' k).2 := ⟨_, rfl⟩
 obtain ⟨kd, hkd⟩ : ∃ kd, kd = kindD n x s L := ⟨_, rfl⟩
 rw [← hcn, ← hce] at q57
 rw [← hkd] at q58
 simp only [dV] at q57 q58
 by_cases hk : kd = 0
 ·rw [hk] at q58
  have hk0 : kindD n x s L = 0 := by rw [← hkd]; exact hk
  have hS := (kind_zero hk0).1
  have har := archesR_ hE (c := c) (L := L) hx1 hS
  have hG := good_of hS
  obtain ⟨G, hGe⟩ : ∃ G, G = dgOf n x s L := ⟨_, rfl⟩
  have hGL : G.L = L := by rw [hGe]; rfl
  rw [← hGe] at har hG
  have hloops := hG.loops
  rw [hGL] at hloops
  obtain ⟨g, hg⟩ : ∃ g, g = genN G := ⟨_, rfl⟩
  have hg' : (arC G : Int) + L = (g : Int) := by rw [hg, ← hGL]; unfold genN; omega
  rw [hg'] at har
  simp only [dV] at har
  simp [rd_def, b1, c1, hn, hn', hm, hm', rdN_def, DC_of q57, DC_of q58, hj1]
  refine har.imp ?_
  rintro o ⟨h2, f2⟩ ⟨b, rfl, s2, hf2, _, _⟩
  simp only at s2 hf2
  have b2 := s2 _ _ b1
  have c2 := s2 _ _ c1
  have hx2 := hx1.sub s2
  have hy2 := hy1.sub s2
  have p56 := saneW_ hW (h0 := h2)
  have hj2 : joined ⟨h2, h0.length⟩ ⟨h2, h2.length⟩ = ⟨h2, h0.length⟩ := joined_mk _ _
  have hcase := countA_good (k := k) hk0
  by_cases hbig : 6 < g ∨ (4 < k ∧ k ≤ 6)
  ·have hce' : ce = 0 ∨ ce = 2 ∨ k < 1 ∨ 6 < k := by
    rw [hce]
    rcases hcase with ⟨h1, h2⟩ | ⟨h1, h2⟩ | ⟨h1, _, h2⟩ <;> rw [h2] <;> simp <;> omega
   by_cases g6 : 6 < g
   ·have g6' : (6 : Int) < g := by omega
    by_cases e0 : ce = 0
    ·simp [g6, g6', joined_fl, hf2, DC_of p56, hj2, endK_ret, back, hsc, e0]
    ·by_cases e2 : ce = 2
     ·simp [g6, g6', joined_fl, hf2, DC_of p56, hj2, endK_ret, back, hsc, e0, e2]
     ·by_cases k1 : k < 1
      ·simp [g6, g6', joined_fl, hf2, DC_of p56, hj2, endK_ret, back, hsc, e0, e2, k1]
      ·have k6 : 6 < k := by omega
       simp [g6, g6', joined_fl, hf2, DC_of p56, hj2, endK_ret, back, hsc, e0, e2, k1, k6]
   ·have g6' : ¬ (6 : Int) < g := by omega
    obtain ⟨k4, k5⟩ : 4 < k ∧ k ≤ 6 := by omega
    by_cases e0 : ce = 0
    ·simp [g6, g6', k4, k5, joined_fl, hf2, DC_of p56, hj2, endK_ret, back, hsc, e0]
    ·by_cases e2 : ce = 2
     ·simp [g6, g6', k4, k5, joined_fl, hf2, DC_of p56, hj2, endK_ret, back, hsc, e0, e2]
     ·by_cases k1 : k < 1
      ·simp [g6, g6', k4, k5, joined_fl, hf2, DC_of p56, hj2, endK_ret, back, hsc, e0, e2, k1]
      ·have k6 : 6 < k := by omega
       simp [g6, g6', k4, k5, joined_fl, hf2, DC_of p56, hj2, endK_ret, back, hsc, e0, e2, k1, k6]
  ·have g6 : ¬ 6 < g := by omega
   have g6' : ¬ (6 : Int) < g := by omega
   have hfew : kindD n x s L = 0 → genN (dgOf n x s L) ≤ 6 ∧ ¬ (4 < k ∧ k ≤ 6) := fun _ => ⟨by rw [← hGe, ← hg]; omega, by omega⟩
   have q60 := countR_ hE (c := c) (L := L) hx2 hfew
   have q57' := countW_ hE hW.kept (c := c') (L := L') (k := k) hy2
   rw [← hcn, ← hce] at q60
   rw [← hdn, ← hde] at q57'
   simp only [dV] at q60 q57'
   have hb0 : ¬ (4 < k ∧ k ≤ 6) := by omega
   have hrest : True := trivial
   by_cases k4 : 4 < k
   ·have k5 : ¬ k ≤ 6 := by omega
    have e0 : ce ≠ 0 := by
     rw [hce]
     rcases hcase with ⟨h1, h2⟩ | ⟨h1, h2⟩ | ⟨h1, _, h2⟩ <;> rw [h2] <;> simp <;> omega
    simp [joined_fl, hf2, g6, g6', k4, k5, rd_def, b2, c2, rdN_def, DC_of q60, DC_of q57', hj2, e0, DC_of p56, endK_ret, back, hsc]
   ·by_cases e0 : ce = 0
    ·by_cases d0 : de = 0
     ·simp [joined_fl, hf2, g6, g6', k4, rd_def, b2, c2, rdN_def, DC_of q60, DC_of q57', hj2, e0, d0, DC_of p56]
      have f1 : (1 ≤ k ∧ k ≤ 6) ∧ FewA (permL k.toNat).length (genN (dgOf n x s L)) ∧ cn = cntD (dgOf n x s L) k.toNat := by
       rw [hce] at e0
       rcases hcase with ⟨h1, h2⟩ | ⟨h1, h2⟩ | ⟨h1, hf, h2⟩
       ·rw [h2] at e0; simp at e0
       ·rw [h2] at e0; simp at e0
       ·exact ⟨h1, hf, by rw [hcn, h2]⟩
      have f2 : kindD n' x' s' L' = 0 ∧ FewA (permL k.toNat).length (genN (dgOf n' x' s' L')) ∧ dn = cntD (dgOf n' x' s' L') k.toNat := by
       rw [hde] at d0
       by_cases hz : kindD n' x' s' L' = 0
       ·rcases countA_good (k := k) hz with ⟨h1, h2⟩ | ⟨h1, h2⟩ | ⟨h1, hf, h2⟩
        ·rw [h2] at d0; simp at d0
        ·rw [h2] at d0; simp at d0
        ·exact ⟨hz, hf, by rw [hdn, h2]⟩
       ·rw [countA_bad hz] at d0; exact absurd d0 hz
      obtain ⟨hk16, hF1, hcv⟩ := f1
      obtain ⟨hz, hF2, hdv⟩ := f2
      have hS' := (kind_zero hz).1
      have hx'b : ∀ i q, i < n' → q < 4 → -1000 ≤ x' i q ∧ x' i q ≤ 1000 := fun i q hi hq => by
       have h1 := sound_x hS' hi hq
       have h2 := (good_of hS').X i q hi hq
       have h3 : (dgOf n' x' s' L').n = n' := rfl
       omega
      have q61 := unionR_ hE (c := c) (c' := c') hx2 hy2 (by omega) ⟨hS.loops, hS'.loops⟩ hx'b
      simp only [dV] at q61
      refine q61.imp ?_
      rintro o ⟨h3, f3⟩ ⟨s3, hf3, hu⟩
      simp only at s3 hf3 hu
      have l3 := s3.len
      have l2 := s2.len
      have hmin3 : min h0.length h3.length = h0.length := by omega
      rcases hu with ⟨_, rfl⟩ | ⟨hsm, a2, rfl, hxu⟩
      ·obtain ⟨h4, hh4⟩ : ∃ H, H = h3 ++ [O.cells [.slice none 0 0, .int .i64 0] 24 (some 0)] := ⟨_, rfl⟩
       have r56 := saneW_ hW (h0 := h4)
       have hj4 : joined ⟨h4, h0.length⟩ ⟨h4, h4.length⟩ = ⟨h4, h0.length⟩ := joined_mk _ _
       have hw4 : wrN h4 h3.length 0 [.slice none 0 0, .int .i64 0] = some h4 := by rw [hh4]; simp [wrN_at0, set_at0]
       simp [joined_fl, hf3, wrN_at0, set_at0, hmin3, ↓← hh4, hw4, DC_of r56, hj4, endK_ret, back, hsc]
      ·obtain ⟨h4, hh4⟩ : ∃ H, H = h3 ++ [O.cells [.slice a2 (n + n') (n + n'), .int .i64 (L + L')] 24 (some 0)] := ⟨_, rfl⟩
       have s4 : Sub h3 h4 := by rw [hh4]; exact (Sub.refl _).app _
       have b4 : h4[h3.length]? = some (O.cells [.slice a2 (n + n') (n + n'), .int .i64 (L + L')] 24 (some 0)) := by rw [hh4, app_at0]; rfl
       have hx4 := hxu.sub s4
       have r57 := countW_ hE hW.kept (c := n + n') (L := L + L') (k := k) hx4
       have r56 := saneW_ hW (h0 := h4)
       have hj4 : joined ⟨h4, h0.length⟩ ⟨h4, h4.length⟩ = ⟨h4, h0.length⟩ := joined_mk _ _
       obtain ⟨hku, hcu⟩ := kind_un hk0 hz (by omega) (by omega)
       obtain ⟨un, hun⟩ : ∃ un, un = (countA (n + n') (unX n x x') (unS n s s') (L + L') k).1 := ⟨_, rfl⟩
       obtain ⟨ue, hue⟩ : ∃ ue, ue = (countA (n + n') (unX n x x') (unS n s s') (L + L') k).2 := ⟨_, rfl⟩
       rw [← hun, ← hue] at r57
       simp only [dV] at r57
       have hfin : ue = 2 ∨ (ue = 0 ∧ un = cn * dn) := by
        rcases countA_good (k := k) hku with ⟨h1, h2⟩ | ⟨h1, h2⟩ | ⟨h1, hf, h2⟩
        ·exact absurd hk16 h1
        ·exact .inl (by rw [hue, h2])
        ·refine .inr ⟨by rw [hue, h2], ?_⟩
         rw [hun, h2, hcv, hdv]
         simp only [hcu k.toNat, Int.natCast_mul]
       have hb1 := cntD_few hF1
       have hb2 := cntD_few hF2
       have hmul : cntD (dgOf n x s L) k.toNat * cntD (dgOf n' x' s' L') k.toNat ≤ 2000000 * 2000000 := Nat.mul_le_mul hb1 hb2
       have hw : IntKind.i64.wrap (cn * dn) = cn * dn := by
        rw [hcv, hdv, ← Int.natCast_mul, w64_id] <;> omega
       rcases hfin with h2 | ⟨h2, h3'⟩
       ·simp [dV, joined_fl, hf3, wrN_at0, set_at0, hmin3, ↓← hh4, rdN_def, b4, DC_of r57, hj4, DC_of r56, h2, endK_ret, back, hsc]
       ·simp [dV, joined_fl, hf3, wrN_at0, set_at0, hmin3, ↓← hh4, rdN_def, b4, DC_of r57, hj4, DC_of r56, h2, h3', hw, endK_ret, back, hsc]
     ·simp [joined_fl, hf2, g6, g6', k4, rd_def, b2, c2, rdN_def, DC_of q60, DC_of q57', hj2, e0, d0, DC_of p56, endK_ret, back, hsc]
    ·simp [joined_fl, hf2, g6, g6', k4, rd_def, b2, c2, rdN_def, DC_of q60, DC_of q57', hj2, e0, DC_of p56, endK_ret, back, hsc]
 ·have q60 := countR_ hE (c := c) (L := L) (k := k) hx1 (fun h => absurd (by rw [hkd]; exact h) hk)
  have q57' := countW_ hE hW.kept (c := c') (L := L') (k := k) hy1
  rw [← hcn, ← hce] at q60
  rw [← hdn, ← hde] at q57'
  simp only [dV] at q60 q57'
  have e0 : ce ≠ 0 := by rw [hce, countA_bad (by rw [← hkd]; exact hk), ← hkd]; exact hk
  simp [rd_def, b1, c1, hn, hn', hm, hm', rdN_def, DC_of q57, DC_of q58, hj1, hk, DC_of q60, DC_of q57', e0, DC_of q56, endK_ret, back, hsc]
end Go.Proofs.Ytjlkndkedknocaa
