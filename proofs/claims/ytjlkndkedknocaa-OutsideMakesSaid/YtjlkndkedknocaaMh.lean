/- Texts that were built one by one: Od19, Od20, Od21, Od22, Od23, Od24, Od25. -/
import Derived.Test.YtjlkndkedknocaaMg
namespace Go.Proofs.Ytjlkndkedknocaa
open Go Go.Ai
set_option linter.unusedSimpArgs false
set_option linter.unusedVariables false
attribute [local instance] Classical.propDecidable
/-- A mixed diagram. -/
noncomputable def mixD (n : Nat) (x : Nat → Nat → Int) (s : Nat → Int) (L : Int) : Bool := decide (kindD n x s L = 0 ∧ MixG (dgOf n x s L))
/-- The error of what is asked. -/
noncomputable def askD (n : Nat) (x : Nat → Nat → Int) (s : Nat → Int) (L : Int) : Int := if kindD n x s L ≠ 0 then kindD n x s L else if MixG (dgOf n x s L) then 0 else 290
theorem ask_zero {n : Nat} {x : Nat → Nat → Int} {s : Nat → Int} {L : Int} (h : askD n x s L = 0) : kindD n x s L = 0 ∧ MixG (dgOf n x s L) := by
  unfold askD at h
  by_cases h1 : kindD n x s L = 0
  · rw [if_neg (by simpa using h1)] at h
    by_cases h2 : MixG (dgOf n x s L)
    · exact ⟨h1, h2⟩
    · rw [if_neg h2] at h; cases h
  · rw [if_pos h1] at h; exact absurd h h1
variable {E : Env} (hE : OE E)
include hE
theorem Mixed_ {h0 : List O} {a : Option Addr} {n c : Nat} {x : Nat → Nat → Int} {s : Nat → Int} {L : Int} (hx : CrossP h0 a n x s) :
    DR E 19 [dV a n c L] ⟨h0, h0.length⟩ (.ret (.bool (mixD n x s L))) ⟨h0, h0.length⟩ := by
  refine hE.fn (body := rb19) rfl ?_
  unfold rb19
  have hx1 : CrossP (h0 ++ [O.cells [.slice a n c, .int .i64 L] 24 (some 0)]) a n x s := hx.ext (Ext.snoc _ _)
  have h1 := check_ hE (c := c) (L := L) hx1
  simp [dV] at h1
  by_cases hk : kindD n x s L = 0
  · have h2 := mixed_ hE (c := c) hx1 hk
    simp [dV] at h2
    simp [dV, rdN_at0, DC_of h1, DC_of h2, hk, joined, mixD]
  · simp [dV, rdN_at0, DC_of h1, hk, joined, mixD]
theorem asked_ {h0 : List O} {a : Option Addr} {n c : Nat} {x : Nat → Nat → Int} {s : Nat → Int} {L : Int} (hx : CrossP h0 a n x s) :
    DR E 84 [dV a n c L] ⟨h0, h0.length⟩ (.ret (.int .i64 (askD n x s L))) ⟨h0, h0.length⟩ := by
  refine hE.fn (body := rb84) rfl ?_
  unfold rb84
  have hx1 : CrossP (h0 ++ [O.cells [.slice a n c, .int .i64 L] 24 (some 0)]) a n x s := hx.ext (Ext.snoc _ _)
  have h1 := check_ hE (c := c) (L := L) hx1
  simp [dV] at h1
  by_cases hk : kindD n x s L = 0
  · have h2 := mixed_ hE (c := c) hx1 hk
    simp [dV] at h2
    by_cases hm : MixG (dgOf n x s L)
    · simp [hm] at h2
      simp [dV, rdN_at0, DC_of h1, DC_of h2, hk, joined, askD, hm]
    · simp [hm] at h2
      simp [dV, rdN_at0, DC_of h1, DC_of h2, hk, joined, askD, hm]
  · simp [dV, rdN_at0, DC_of h1, hk, joined, askD]
theorem comesIn_ {h : List O} {x : Nat → Int} {s : Int} {q : Nat} (hs : s = 1 ∨ s = -1) (hq : q < 4) :
    DR E 222 [crossV x s, .int .i64 q] ⟨h, h.length⟩ (.ret (.bool (!outB s q))) ⟨h, h.length⟩ := by
  refine hE.fn (body := rb222) rfl ?_
  unfold rb222
  rcases hs with rfl | rfl
  all_goals
    match q, hq with
    | 0, _ => simp [crossV, rd_at0, outB]
    | 1, _ => simp [crossV, rd_at0, outB]
    | 2, _ => simp [crossV, rd_at0, outB]
    | 3, _ => simp [crossV, rd_at0, outB]
theorem turned_ {h : List O} {c p e : Nat} {d : Int} (he : (p : Int) + d + 4 = e) (hd : -4 ≤ d ∧ d ≤ 4) (hp : p < 4) :
    DR E 154 [endV (c, p), .int .i64 d] ⟨h, h.length⟩ (.ret (endV (c, e % 4))) ⟨h, h.length⟩ := by
  refine hE.fn (body := rb154) rfl ?_
  unfold rb154
  have hw1 : IntKind.i64.wrap ((p : Int) + d) = (p : Int) + d := by rw [w64_id] <;> omega
  have hw2 : IntKind.i64.wrap ((p : Int) + d + 4) = (e : Nat) := by rw [he, w64_id] <;> omega
  have hm : ((e : Nat) : Int).tmod 4 = ((e % 4 : Nat) : Int) := tmod_nat e 4
  have hle : h.length ≤ h.length + 1 := by omega
  simp [endV, rd_at0, rd_at, rdN_at, rdN_at0, wrN_at, wrN_at0, set_at, List.append_assoc, hw1, hw2, hm, back_scalar, Out.scalar, scalar, flat1, flat]
def permV (a b c d : Int) : Value := .agg #[.int .i64 a, .int .i64 b, .int .i64 c, .int .i64 d]
theorem valid0 {h : List O} {a b : Int} (hab : a = 0 ∧ b = 1 ∨ a = 1 ∧ b = 0) : DR E 237 [permV a b 2 3] ⟨h, h.length⟩ (.ret (.bool true)) ⟨h, h.length⟩ := by
  refine hE.fn (body := rb237) rfl ?_
  unfold rb237
  have o1 : binV .shl (.int .i64 1) (.int .i64 0) = some (.int .i64 1) := rfl
  have o2 : binV .shl (.int .i64 1) (.int .i64 1) = some (.int .i64 2) := rfl
  have o3 : binV .shl (.int .i64 1) (.int .i64 2) = some (.int .i64 4) := rfl
  have o4 : binV .shl (.int .i64 1) (.int .i64 3) = some (.int .i64 8) := rfl
  have p1 : binV .or (.int .i64 0) (.int .i64 1) = some (.int .i64 1) := rfl
  have p2 : binV .or (.int .i64 1) (.int .i64 2) = some (.int .i64 3) := rfl
  have p3 : binV .or (.int .i64 3) (.int .i64 4) = some (.int .i64 7) := rfl
  have p4 : binV .or (.int .i64 7) (.int .i64 8) = some (.int .i64 15) := rfl
  have p5 : binV .or (.int .i64 0) (.int .i64 2) = some (.int .i64 2) := rfl
  have p6 : binV .or (.int .i64 2) (.int .i64 1) = some (.int .i64 3) := rfl
  have w1 : IntKind.i64.wrap 1 = 1 := by decide
  have w2 : IntKind.i64.wrap 2 = 2 := by decide
  have w3 : IntKind.i64.wrap 3 = 3 := by decide
  have w4 : IntKind.i64.wrap 4 = 4 := by decide
  rcases hab with ⟨rfl, rfl⟩ | ⟨rfl, rfl⟩
  all_goals
    simp [permV, rdN_at0]
    rw [DW_loop_unfold]; simp [partL, o1, o2, o3, o4, p1, p2, p3, p4, p5, p6, w1, w2, w3, w4]
    rw [DW_loop_unfold]; simp [partL, o1, o2, o3, o4, p1, p2, p3, p4, p5, p6, w1, w2, w3, w4]
    rw [DW_loop_unfold]; simp [partL, o1, o2, o3, o4, p1, p2, p3, p4, p5, p6, w1, w2, w3, w4]
    rw [DW_loop_unfold]; simp [partL, o1, o2, o3, o4, p1, p2, p3, p4, p5, p6, w1, w2, w3, w4]
    rw [DW_loop_unfold]; simp [partL, o1, o2, o3, o4, p1, p2, p3, p4, p5, p6, w1, w2, w3, w4]
theorem inverse0 {h : List O} {a b : Int} (hab : a = 0 ∧ b = 1 ∨ a = 1 ∧ b = 0) : DR E 238 [permV a b 2 3] ⟨h, h.length⟩ (.ret (permV a b 2 3)) ⟨h, h.length⟩ := by
  refine hE.fn (body := rb238) rfl ?_
  unfold rb238
  have w1 : IntKind.i64.wrap 1 = 1 := by decide
  have w2 : IntKind.i64.wrap 2 = 2 := by decide
  have w3 : IntKind.i64.wrap 3 = 3 := by decide
  have w4 : IntKind.i64.wrap 4 = 4 := by decide
  rcases hab with ⟨rfl, rfl⟩ | ⟨rfl, rfl⟩
  all_goals
    simp [permV, rdN_at0, List.append_assoc]
    rw [DW_loop_unfold]; simp [partL, wrN_at, set_at, w1, w2, w3, w4, List.append_assoc]
    rw [DW_loop_unfold]; simp [partL, wrN_at, set_at, w1, w2, w3, w4, List.append_assoc]
    rw [DW_loop_unfold]; simp [partL, wrN_at, set_at, w1, w2, w3, w4, List.append_assoc]
    rw [DW_loop_unfold]; simp [partL, wrN_at, set_at, w1, w2, w3, w4, List.append_assoc]
    rw [DW_loop_unfold]; simp [partL, wrN_at, rdN_at, set_at, w1, w2, w3, w4, List.append_assoc, back_scalar, Out.scalar, scalar, flat1, flat]
theorem Inverse0 {h : List O} {a b : Int} (hab : a = 0 ∧ b = 1 ∨ a = 1 ∧ b = 0) : DR E 215 [permV a b 2 3] ⟨h, h.length⟩ (.ret (permV a b 2 3)) ⟨h, h.length⟩ := by
  refine hE.fn (body := rb215) rfl ?_
  unfold rb215
  have h1 := fun h => valid0 hE (h := h) hab
  have h2 := fun h => inverse0 hE (h := h) hab
  simp only [permV] at h1 h2
  simp [permV, rdN_at0, wrN_at, set_at, rdN_at, List.append_assoc, DC_q h1, DC_q h2, joined_fl, back_scalar, Out.scalar, scalar, flat1, flat]
end Go.Proofs.Ytjlkndkedknocaa
namespace Go.Proofs.Ytjlkndkedknocaa
open Go Go.Ai
set_option linter.unusedSimpArgs false
set_option linter.unusedVariables false
attribute [local instance] Classical.propDecidable
def begA (G : Dg) (a j : Nat) : Nat × Nat := if 4 * G.T a 0 + G.T a 1 < j then (G.T a 0, G.T a 1) else (0, 0)
def finA (G : Dg) (a j : Nat) : Nat × Nat := if 4 * G.T a 2 + G.T a 3 < j then (G.T a 2, G.T a 3) else (0, 0)
theorem sound_x {n : Nat} {x : Nat → Nat → Int} {s : Nat → Int} {L : Int} (hS : Snd n x s L) {i q : Nat} (hi : i < n) (hq : q < 4) : x i q = (dgOf n x s L).X i q := by
  have h4 : 0 ≤ x i q := by
    have := (hS.range (4 * i + q) (by omega)).1
    unfold use at this
    rw [show (4 * i + q) / 4 = i by omega, show (4 * i + q) % 4 = q by omega] at this
    exact this
  have : (dgOf n x s L).X i q = (x i q).toNat := rfl
  omega
/-- A step of the search for an arc's places. -/
theorem beg_step {G : Dg} (hG : GoodG G) {a i q : Nat} (ha : a < 2 * G.n) (hi : i < G.n) (hq : q < 4) :
    (G.X i q ≠ a → begA G a (4 * i + q + 1) = begA G a (4 * i + q) ∧ finA G a (4 * i + q + 1) = finA G a (4 * i + q)) ∧
    (G.X i q = a → outB (G.s i) q = true → begA G a (4 * i + q + 1) = (i, q) ∧ finA G a (4 * i + q + 1) = finA G a (4 * i + q)) ∧
    (G.X i q = a → outB (G.s i) q = false → begA G a (4 * i + q + 1) = begA G a (4 * i + q) ∧ finA G a (4 * i + q + 1) = (i, q)) := by
  obtain ⟨t0, t1, t2, t3, x1, x2, hne⟩ := hG.T a ha
  obtain ⟨d1, d2⟩ := hG.dir a ha
  have eb : 4 * G.T a 0 + G.T a 1 = 4 * i + q → G.T a 0 = i ∧ G.T a 1 = q := fun e => by omega
  have ef : 4 * G.T a 2 + G.T a 3 = 4 * i + q → G.T a 2 = i ∧ G.T a 3 = q := fun e => by omega
  have nb : (G.T a 0 = i ∧ G.T a 1 = q → False) → begA G a (4 * i + q + 1) = begA G a (4 * i + q) := fun hn => by
    have : 4 * G.T a 0 + G.T a 1 ≠ 4 * i + q := fun e => hn (eb e)
    unfold begA
    by_cases h : 4 * G.T a 0 + G.T a 1 < 4 * i + q
    · rw [if_pos h, if_pos (by omega)]
    · rw [if_neg h, if_neg (by omega)]
  have nf : (G.T a 2 = i ∧ G.T a 3 = q → False) → finA G a (4 * i + q + 1) = finA G a (4 * i + q) := fun hn => by
    have : 4 * G.T a 2 + G.T a 3 ≠ 4 * i + q := fun e => hn (ef e)
    unfold finA
    by_cases h : 4 * G.T a 2 + G.T a 3 < 4 * i + q
    · rw [if_pos h, if_pos (by omega)]
    · rw [if_neg h, if_neg (by omega)]
  refine ⟨fun hx => ⟨nb fun h => hx (by rw [← h.1, ← h.2]; exact x1), nf fun h => hx (by rw [← h.1, ← h.2]; exact x2)⟩, fun hx ho => ?_, fun hx ho => ?_⟩
  · have hc := hG.cover i q hi hq
    rw [hx] at hc
    rcases hc with ⟨h1, h2⟩ | ⟨h1, h2⟩
    · refine ⟨?_, nf fun h => by rw [h.1, h.2, ho] at d2; cases d2⟩
      unfold begA
      rw [if_pos (by omega), ← h1, ← h2]
    · rw [← h1, ← h2, ho] at d2; cases d2
  · have hc := hG.cover i q hi hq
    rw [hx] at hc
    rcases hc with ⟨h1, h2⟩ | ⟨h1, h2⟩
    · rw [← h1, ← h2, ho] at d1; cases d1
    · refine ⟨nb fun h => (by rw [h.1, h.2, ho] at d1; cases d1), ?_⟩
      unfold finA
      rw [if_pos (by omega), ← h1, ← h2]
variable {E : Env} (hE : OE E)
include hE
theorem ends_ {h0 : List O} {a : Option Addr} {n c : Nat} {x : Nat → Nat → Int} {s : Nat → Int} {L : Int} (hx : CrossP h0 a n x s) (hS : Snd n x s L) {arc : Nat} (ha : arc < 2 * n) :
    DR E 161 [dV a n c L, .int .i64 arc] ⟨h0, h0.length⟩ (.ret (.tuple #[endV ((dgOf n x s L).T arc 0, (dgOf n x s L).T arc 1), endV ((dgOf n x s L).T arc 2, (dgOf n x s L).T arc 3)])) ⟨h0, h0.length⟩ := by
  refine hE.fn (body := rb161) rfl ?_
  unfold rb161
  have hG := good_of hS
  have hxe : ∀ i q, i < n → q < 4 → x i q = (dgOf n x s L).X i q := fun i q hi hq => sound_x hS hi hq
  obtain ⟨G, hGe⟩ : ∃ G, G = dgOf n x s L := ⟨_, rfl⟩
  have hGn : G.n = n := by rw [hGe]; rfl
  have hGs : G.s = s := by rw [hGe]; rfl
  rw [← hGe] at hG hxe ⊢
  have hsz := hG.size
  obtain ⟨xb, xo, hxa, hxr⟩ := hx
  obtain rfl := hxa (by omega)
  simp [dV, rd_at, rd_at0, List.append_assoc]
  refine DW_loop (fun kk fr st => ∃ (i : Nat) (h : List O), i + kk = n ∧ st = ⟨h, h0.length⟩ ∧ Sub h0 h ∧ AtB h (h0.length + 1) (.cells (cells2 (begA G arc (4 * i))) 184 (some 0)) ∧ AtB h (h0.length + 2) (.cells (cells2 (finA G arc (4 * i))) 184 (some 0)) ∧
    get fr 1 = .int .i64 arc ∧ get fr 4 = .pointer (some ⟨h0.length + 1, 0, none⟩) ∧ get fr 5 = .pointer (some ⟨h0.length + 2, 0, none⟩) ∧ get fr 11 = .slice (some ⟨xb, xo, none⟩) n c ∧ get fr 12 = .int .i64 n ∧ get fr 13 = .int .i64 i) ?_ (k := n) ?_
  · rintro kk fr st ⟨i, h, hik, rfl, hsub, hb4, hb5, g1, g4, g5, g11, g12, g13⟩
    have h5 := hb5
    have h4 := hb4
    unfold AtB at h4 h5
    have l5 := (List.getElem?_eq_some_iff.1 h5).1
    by_cases hi : i < n
    · have hcr := hsub.rdN (hxr i hi)
      rw [rdN_def] at hcr
      simp only [crossC] at hcr
      have hmin : min h0.length h.length = h0.length := by omega
      simp [g1, g4, g5, g11, g12, g13, hi, rdN_def, hcr, wrN_at0, set_at0, app_at0, hmin]
      obtain ⟨H, hH⟩ : ∃ H, H = h ++ [O.cells (crossC (x i) (s i)) 107 (some 0)] := ⟨_, rfl⟩
      have hH' := hH
      simp only [crossC] at hH'
      rw [← hH']
      have hHs : Sub h H := by rw [hH]; exact (Sub.refl _).app _
      have hHc : H[h.length]? = some (.cells (crossC (x i) (s i)) 107 (some 0)) := by rw [hH, app_at0]; rfl
      refine DW_loop (fun kk' fr st => ∃ (q : Nat) (h' : List O), q + kk' = 4 ∧ st = ⟨h', h0.length⟩ ∧ Sub h0 h' ∧ AtB h' h.length (.cells (crossC (x i) (s i)) 107 (some 0)) ∧ AtB h' (h0.length + 1) (.cells (cells2 (begA G arc (4 * i + q))) 184 (some 0)) ∧ AtB h' (h0.length + 2) (.cells (cells2 (finA G arc (4 * i + q))) 184 (some 0)) ∧
        get fr 1 = .int .i64 arc ∧ get fr 4 = .pointer (some ⟨h0.length + 1, 0, none⟩) ∧ get fr 5 = .pointer (some ⟨h0.length + 2, 0, none⟩) ∧ get fr 11 = .slice (some ⟨xb, xo, none⟩) n c ∧ get fr 12 = .int .i64 n ∧ get fr 13 = .int .i64 i ∧ get fr 6 = .int .i64 i ∧ get fr 7 = .pointer (some ⟨h.length, 0, none⟩) ∧
        get fr 19 = .agg #[.int .i64 (x i 0), .int .i64 (x i 1), .int .i64 (x i 2), .int .i64 (x i 3)] ∧ get fr 20 = .int .i64 q) ?_ (k := 4) ?_
      · clear g1 g4 g5 g11 g12 g13
        rintro kk' fr st ⟨q, h', hqk, rfl, hs', hbc, hb4, hb5, g1, g4, g5, g11, g12, g13, g6, g7, g19, g20⟩
        have h5 := hb5
        have h4 := hb4
        have hc := hbc
        unfold AtB at h4 h5 hc
        have l5 := (List.getElem?_eq_some_iff.1 h5).1
        by_cases hq : q < 4
        · have hq' : (q : Int) < 4 := by omega
          have hw : IntKind.i64.wrap ((q : Int) + 1) = (q : Int) + 1 := by rw [w64_id] <;> omega
          have hxq : [Value.int .i64 (x i 0), .int .i64 (x i 1), .int .i64 (x i 2), .int .i64 (x i 3)][q]? = some (.int .i64 (x i q)) := by
            match q, hq with
            | 0, _ => rfl
            | 1, _ => rfl
            | 2, _ => rfl
            | 3, _ => rfl
          obtain ⟨s1, s2, s3⟩ := beg_step hG (a := arc) (i := i) (q := q) (by omega) (by omega) hq
          have hsg := hG.sign i (by omega)
          rw [hGs] at hsg s2 s3
          have hxi := hxe i q hi hq
          have hcm := fun h => comesIn_ hE (h := h) (x := x i) (s := s i) hsg hq
          simp only [crossV] at hcm
          simp only [crossC] at hc
          have hmin1 : min h0.length (h0.length + 1) = h0.length := by omega
          have hmin2 : min h0.length (h0.length + 2) = h0.length := by omega
          by_cases he : G.X i q = arc
          · cases ho : outB (s i) q
            · obtain ⟨e1, e2⟩ := s3 he ho
              have hcm' := hcm h'
              rw [ho] at hcm'
              simp [g1, g4, g5, g11, g12, g13, g6, g7, g19, g20, hq', partL, hxq, hxi, he, rdN_def, hc, DC_q hcm, ho, hw, wrN_def, h5, cells2, hmin2]
              refine ⟨kk' - 1, by omega, q + 1, by omega, hs'.set (by omega) _, ?_, ?_, ?_, by omega⟩
              · exact set_ne hbc (by omega)
              · rw [← Nat.add_assoc, e1]; exact set_ne hb4 (by omega)
              · rw [← Nat.add_assoc, e2]; exact set_self h5
            · obtain ⟨e1, e2⟩ := s2 he ho
              simp [g1, g4, g5, g11, g12, g13, g6, g7, g19, g20, hq', partL, hxq, hxi, he, rdN_def, hc, DC_q hcm, ho, hw, wrN_def, h4, cells2, hmin1]
              refine ⟨kk' - 1, by omega, q + 1, by omega, hs'.set (by omega) _, ?_, ?_, ?_, by omega⟩
              · exact set_ne hbc (by omega)
              · rw [← Nat.add_assoc, e1]; exact set_self h4
              · rw [← Nat.add_assoc, e2]; exact set_ne hb5 (by omega)
          · obtain ⟨e1, e2⟩ := s1 he
            simp [g1, g4, g5, g11, g12, g13, g6, g7, g19, g20, hq', partL, hxq, hxi, he, rdN_def, hc, hw]
            refine ⟨kk' - 1, by omega, q + 1, by omega, hs', hbc, ?_, ?_, by omega⟩
            · rw [← Nat.add_assoc, e1]; exact hb4
            · rw [← Nat.add_assoc, e2]; exact hb5
        · have hq4 : q = 4 := by omega
          subst hq4
          have hw : IntKind.i64.wrap ((i : Int) + 1) = (i : Int) + 1 := by rw [w64_id] <;> omega
          simp [g1, g4, g5, g11, g12, g13, g6, g7, g19, g20, hw]
          exact ⟨kk - 1, by omega, i + 1, by omega, hs', hb4, hb5, by omega⟩
      · exact ⟨0, H, by omega, rfl, hsub.trans hHs, hHc, hHs _ _ h4, hHs _ _ h5, by simp [g1, g4, g5, g11, g12, g13]⟩
    · have hin : i = n := by omega
      subst hin
      obtain ⟨t0, t1, t2, t3, _⟩ := hG.T arc (by omega)
      have eb : begA G arc (4 * i) = (G.T arc 0, G.T arc 1) := by unfold begA; rw [if_pos (by omega)]
      have ef : finA G arc (4 * i) = (G.T arc 2, G.T arc 3) := by unfold finA; rw [if_pos (by omega)]
      rw [eb] at h4
      rw [ef] at h5
      simp only [cells2] at h4 h5
      have l4 : h0.length + 1 < h.length := by omega
      have hn1 : ∀ o, (h.set (h0.length + 1) o)[h0.length + 2]? = h[h0.length + 2]? := fun o => List.getElem?_set_ne (by omega)
      have hn2 : ∀ o, (h.set (h0.length + 2) o)[h0.length + 1]? = h[h0.length + 1]? := fun o => List.getElem?_set_ne (by omega)
      have hs1 : h.set (h0.length + 1) (.cells [.int .i64 (G.T arc 0), .int .i64 (G.T arc 1)] 184 (some 0)) = h := set_same h4
      have hs2 : h.set (h0.length + 2) (.cells [.int .i64 (G.T arc 2), .int .i64 (G.T arc 3)] 184 (some 0)) = h := set_same h5
      have hmin1 : min h0.length (min (h0.length + 1) (h0.length + 2)) = h0.length := by omega
      simp [g1, g4, g5, g11, g12, g13, rdN_def, h4, h5, wrN_def, bit, hs1, hs2]
      simp [endV, back_scalar, Out.scalar, scalar, flat1, flat, hmin1, g4, g5, rdN_def, h4, h5]
  · exact ⟨0, _, by omega, rfl, (Sub.refl h0).app _, by simp [AtB, app_at, begA, cells2], by simp [AtB, app_at, finA, cells2], by simp⟩
end Go.Proofs.Ytjlkndkedknocaa
namespace Go.Proofs.Ytjlkndkedknocaa
open Go Go.Ai
set_option linter.unusedSimpArgs false
set_option linter.unusedVariables false
attribute [local instance] Classical.propDecidable
/-- The corners' numbers: the first j. -/
noncomputable def cornJ (j : Nat) : Nat × Nat → Option Value := fun x => if x.2 < 4 ∧ 4 * x.1 + x.2 < j then some (.int .i64 ((4 * x.1 + x.2 : Nat) : Int)) else none
theorem cornJ_next {i q : Nat} (hq : q < 4) : upS (cornJ (4 * i + q)) (i, q) (.int .i64 ((4 * i + q : Nat) : Int)) = cornJ (4 * i + q + 1) := by
  funext x
  obtain ⟨c, p⟩ := x
  simp only [upS, cornJ]
  by_cases e : (c, p) = (i, q)
  · rw [if_pos e]
    have e1 := congrArg Prod.fst e
    have e2 := congrArg Prod.snd e
    simp only at e1 e2
    subst e1 e2
    rw [if_pos (by omega)]
  · rw [if_neg e]
    have hne : p < 4 → 4 * c + p ≠ 4 * i + q := fun hp h => e (by rw [show c = i by omega, show p = q by omega])
    by_cases h : p < 4 ∧ 4 * c + p < 4 * i + q
    · rw [if_pos h, if_pos (by omega)]
    · rw [if_neg h, if_neg]
      rintro ⟨h1, h2⟩
      have := hne h1
      exact h ⟨h1, by omega⟩
/-- A builder in memory. -/
structure Bld (h : List O) (p fb mb : Nat) (a : Option Addr) (n c : Nat) (L : Int) (cs : List Value) : Prop where
  p : h[p]? = some (.cells [.slice (some ⟨fb, 0, none⟩) (4 * n) (4 * n), .slice a n c, .int .i64 L, .map (some mb)] 182 (some 0))
  fb : h[fb]? = some (.cells cs 100 (some 20))
  mb : ∃ es clock, h[mb]? = some (.map es clock) ∧ MapIs kcII es (cornJ (4 * n))
theorem Bld.keep {h h' : List O} {p fb mb : Nat} {a : Option Addr} {n c : Nat} {L : Int} {cs : List Value} (k : Bld h p fb mb a n c L cs) (hk : ∀ (b : Nat) (o : O), b = p ∨ b = fb ∨ b = mb → h[b]? = some o → h'[b]? = some o) : Bld h' p fb mb a n c L cs := by
  obtain ⟨k1, k2, es, clock, k3, k4⟩ := k
  exact ⟨hk _ _ (.inl rfl) k1, hk _ _ (.inr (.inl rfl)) k2, es, clock, hk _ _ (.inr (.inr rfl)) k3, k4⟩
/-- The faces' list under way. -/
structure BldI (h0 h : List O) (p mb : Nat) (a : Option Addr) (n c : Nat) (L : Int) (j : Nat) : Prop where
  sub : Sub h0 h
  lp : h0.length ≤ p
  lm : h0.length ≤ mb
  at_ : ∃ v, h[p]? = some (.cells [v, .slice a n c, .int .i64 L, .map (some mb)] 182 (some 0)) ∧ OwnA h h0.length v j (List.replicate (20 * j) (.int .i64 0)) 100 20
  mb : ∃ es clock, h[mb]? = some (.map es clock) ∧ MapIs kcII es (cornJ j)
variable {E : Env} (hE : OE E)
include hE
theorem builderOf_ {h0 : List O} {a : Option Addr} {n c : Nat} {L : Int} (hn : 0 < n) (hsz : n ≤ 200) :
    DC E 85 [dV a n c L] ⟨h0, h0.length⟩ fun o st' => ∃ p fb mb, o = .ret (.pointer (some ⟨p, 0, none⟩)) ∧ h0.length ≤ st'.fl ∧ Sub h0 st'.h ∧ h0.length ≤ p ∧ h0.length ≤ fb ∧ h0.length ≤ mb ∧ Bld st'.h p fb mb a n c L (List.replicate (80 * n) (.int .i64 0)) := by
  refine hE.fnC (body := rb85) rfl ?_
  unfold rb85
  simp [dV, rdN_at0, rd_at, rd_at0, List.append_assoc]
  refine DW_loop (fun kk fr st => ∃ (i : Nat) (h : List O), i + kk = n ∧ st = ⟨h, h0.length⟩ ∧ BldI h0 h (h0.length + 2) (h0.length + 1) a n c L (4 * i) ∧ get fr 3 = .pointer (some ⟨h0.length + 2, 0, none⟩) ∧ get fr 12 = .int .i64 n ∧ get fr 13 = .int .i64 i) ?_ (k := n) ?_
  · rintro kk fr st ⟨i, h, hik, rfl, hI, g3, g12, g13⟩
    by_cases hi : i < n
    · simp [g3, g12, g13, hi]
      refine DW_loop (fun kk' fr st => ∃ (q : Nat) (h : List O), q + kk' = 4 ∧ st = ⟨h, h0.length⟩ ∧ BldI h0 h (h0.length + 2) (h0.length + 1) a n c L (4 * i + q) ∧ get fr 3 = .pointer (some ⟨h0.length + 2, 0, none⟩) ∧ get fr 12 = .int .i64 n ∧ get fr 13 = .int .i64 i ∧ get fr 4 = .int .i64 i ∧ get fr 16 = .int .i64 q) ?_ (k := 4) ?_
      · clear g3 g12 g13 hI
        clear h
        rintro kk' fr st ⟨q, h, hqk, rfl, hI, g3, g12, g13, g4, g16⟩
        by_cases hq : q < 4
        · have hq' : (q : Int) < 4 := by omega
          have hw : IntKind.i64.wrap ((q : Int) + 1) = (q : Int) + 1 := by rw [w64_id] <;> omega
          obtain ⟨v, hp, hv⟩ := hI.at_
          obtain ⟨es, clock, hm, hM⟩ := hI.mb
          have hsl := hI.sub.len
          have lp := (List.getElem?_eq_some_iff.1 hp).1
          obtain ⟨va, vn, vc, rfl, hvn⟩ : ∃ a n c, v = .slice a n c ∧ n = 4 * i + q := by
            rcases hv.2 with ⟨h1, h2⟩ | ⟨b, h1, _⟩
            · exact ⟨_, _, _, h1, h2.symm⟩
            · exact ⟨_, _, _, h1, rfl⟩
          subst hvn
          obtain ⟨es', clock', hupd, hM'⟩ := MapIs.upd keyII hM (f := h0.length) hm (i, q) (.int .i64 ((4 * i + q : Nat) : Int))
          rw [cornJ_next hq] at hM'
          have hupd' : updS [some .i64, some .i64] true ⟨h, h0.length⟩ (.map (some (h0.length + 1))) (.agg #[.int .i64 i, .int .i64 q]) (.int .i64 ((4 * i + q : Nat) : Int)) = _ := hupd
          have hmin : min h0.length (h0.length + 1) = h0.length := by omega
          obtain ⟨H, hH⟩ : ∃ H, H = h.set (h0.length + 1) (.map es' clock') := ⟨_, rfl⟩
          rw [← hH, hmin] at hupd'
          have hHp := set_ne (x := O.map es' clock') (a := h0.length + 1) hp (by omega)
          rw [← hH] at hHp
          have lH : H.length = h.length := by rw [hH]; exact List.length_set
          have hHm : H[h0.length + 1]? = some (.map es' clock') := by rw [hH]; exact set_self hm
          obtain ⟨z, hz⟩ : ∃ z, z = List.replicate 20 (Value.int .i64 0) := ⟨_, rfl⟩
          have hz2 : z = [.int .i64 0, .int .i64 0, .int .i64 0, .int .i64 0, .int .i64 0, .int .i64 0, .int .i64 0, .int .i64 0, .int .i64 0, .int .i64 0, .int .i64 0, .int .i64 0, .int .i64 0, .int .i64 0, .int .i64 0, .int .i64 0, .int .i64 0, .int .i64 0, .int .i64 0, .int .i64 0] := by rw [hz]; rfl
          have hv2 : OwnA (H ++ [.cells z 100 (some 0)]) h0.length (.slice va (4 * i + q) vc) (4 * i + q) (List.replicate (20 * (4 * i + q)) (.int .i64 0)) 100 20 := hv.keep fun b hb e => app_of (by
            rw [hH]; exact set_ne e (fun e' => by rw [e'] at e; rw [e] at hm; cases hm)) _
          have hread : readSlice (H ++ [.cells z 100 (some 0)]) 20 1 (some ⟨H.length, 0, none⟩) = some z := by simp [readSlice, rdN_at0, hz]
          obtain ⟨v', H4, f4, happ, hown, hf1, hf2, hL4, K4⟩ := append_A (fl := h0.length) (c := 1) (bytes := 160) hv2 hread (by rw [hz]; simp) (by rw [hz]; simp) (by simp [lH]; omega) (by simp only [roomMax]; omega) (by omega)
          obtain rfl : f4 = h0.length := by omega
          rw [hz2] at happ
          have hH4p := K4 _ _ (app_of hHp [.cells z 100 (some 0)]) (.inr fun c e => by cases e)
          have hmin2 : min h0.length (h0.length + 2) = h0.length := by omega
          have ht : binV .add (.int .i64 0) (.int .i64 0) = some (.int .i64 0) := rfl
          obtain ⟨va', vn', vc', rfl⟩ : ∃ a n c, v' = .slice a n c := by
            rcases hown.2 with ⟨h1, h2⟩ | ⟨b, h1, _⟩
            · exact ⟨_, _, _, h1⟩
            · exact ⟨_, _, _, h1⟩
          have hc4 : ((4 * i + q : Nat) : Int) = 4 * (i : Int) + q := by omega
          rw [hc4] at hupd'
          simp [g3, g12, g13, g4, g16, hq', rd_def, hp, hHp, step_updS, hupd', bit, hw, happ, wrN_def, hH4p, hmin2]
          refine ⟨kk' - 1, by omega, q + 1, by omega, ⟨fun b o hb => ?_, by omega, by omega, ⟨_, set_self hH4p, ?_⟩, es', clock', ?_, hM'⟩, by omega⟩
          · have hb0 := (List.getElem?_eq_some_iff.1 hb).1
            refine set_ne (K4 b o (app_of ?_ _) (.inl hb0)) (by omega)
            rw [hH]
            exact set_ne (hI.sub b o hb) (by omega)
          · have e20 : List.replicate (20 * (4 * i + q)) (Value.int .i64 0) ++ z = List.replicate (20 * (4 * i + (q + 1))) (.int .i64 0) := by
              rw [hz, List.replicate_append_replicate]; congr 1
            rw [e20] at hown
            exact hown.keep fun b hb e => set_ne e (fun e' => by rw [e'] at e; rw [hH4p] at e; cases e)
          · exact set_ne (K4 _ _ (app_of hHm _) (.inr fun c e => by cases e)) (by omega)
        · have hq4 : q = 4 := by omega
          subst hq4
          have hw : IntKind.i64.wrap ((i : Int) + 1) = (i : Int) + 1 := by rw [w64_id] <;> omega
          simp [g3, g12, g13, g4, g16, hw]
          exact ⟨kk - 1, by omega, i + 1, by omega, hI, by omega⟩
      · exact ⟨0, h, by omega, rfl, hI, by simp [g3, g12, g13]⟩
    · have hin : i = n := by omega
      subst hin
      simp [g3, g12, g13]
      unfold pairQ back
      rw [if_neg (by simp [Out.scalar, scalar, flat1, flat])]
      obtain ⟨v, hp, hv⟩ := hI.at_
      rcases hv.2 with ⟨h1, h2⟩ | ⟨b, h1, h2, h3⟩
      · omega
      · subst h1
        refine ⟨h0.length + 2, rfl, Nat.le_refl _, hI.sub, by omega, b, h2, h0.length + 1, by omega, hp, ?_, hI.mb⟩
        rw [show 80 * i = 20 * (4 * i) by omega]; exact h3
  · refine ⟨0, _, by omega, rfl, ⟨(Sub.refl h0).app _, by omega, by omega, ⟨.slice none 0 0, by simp [app_at], OwnA.nil _ _ _ _⟩, [], 0, by simp [app_at], ?_⟩, by simp⟩
    have : cornJ (4 * 0) = fun _ => none := by funext x; simp [cornJ]
    rw [this]
    exact MapIs.nil
end Go.Proofs.Ytjlkndkedknocaa
namespace Go.Proofs.Ytjlkndkedknocaa
open Go Go.Ai
set_option linter.unusedSimpArgs false
set_option linter.unusedVariables false
attribute [local instance] Classical.propDecidable
def outC (t f : Nat) : List Value := [.int .i64 t, .int .i64 f]
def outV (t f : Nat) : Value := .agg #[.int .i64 t, .int .i64 f]
/-- The four faces along an arc: tetrahedra, faces. -/
def alT (G : Dg) (a : Nat) : Nat → Nat
  | 0 => 4 * G.T a 0 + G.T a 1
  | 1 => 4 * G.T a 2 + (G.T a 3 + 3) % 4
  | 2 => 4 * G.T a 0 + (G.T a 1 + 3) % 4
  | _ => 4 * G.T a 2 + G.T a 3
def alF (G : Dg) (a : Nat) : Nat → Nat
  | 0 => G.T a 1 % 2
  | 1 => G.T a 3 % 2
  | 2 => G.T a 1 % 2
  | _ => G.T a 3 % 2
theorem alT_lt {G : Dg} (hG : GoodG G) {a : Nat} (ha : a < 2 * G.n) (k : Nat) : alT G a k < 4 * G.n ∧ alF G a k < 4 := by
  obtain ⟨t0, t1, t2, t3, _⟩ := hG.T a ha
  match k with
  | 0 => constructor <;> simp only [alT, alF] <;> omega
  | 1 => constructor <;> simp only [alT, alF] <;> omega
  | 2 => constructor <;> simp only [alT, alF] <;> omega
  | k + 3 => constructor <;> simp only [alT, alF] <;> omega
def alongC (G : Dg) (a : Nat) : List Value := outC (alT G a 0) (alF G a 0) ++ outC (alT G a 1) (alF G a 1) ++ outC (alT G a 2) (alF G a 2) ++ outC (alT G a 3) (alF G a 3)
def fcC : Option (Nat × Bool) → List Value
  | none => [.int .i64 0, .int .i64 0, .int .i64 0, .int .i64 0, .int .i64 0]
  | some (t, sw) => [.int .i64 t, .int .i64 (if sw then 1 else 0), .int .i64 (if sw then 0 else 1), .int .i64 2, .int .i64 3]
theorem fcC_len (x : Option (Nat × Bool)) : (fcC x).length = 5 := by rcases x with _ | ⟨t, sw⟩ <;> rfl
/-- The faces of N tetrahedra in cells. -/
def FacesC (cs : List Value) (N : Nat) (F : Nat → Nat → Option (Nat × Bool)) : Prop := cs.length = 20 * N ∧ ∀ t f, t < N → f < 4 → ∀ j, j < 5 → cs[t * 20 + f * 5 + j]? = (fcC (F t f))[j]?
def updF (F : Nat → Nat → Option (Nat × Bool)) (t f : Nat) (x : Option (Nat × Bool)) : Nat → Nat → Option (Nat × Bool) := fun t' f' => if t' = t ∧ f' = f then x else F t' f'
theorem FacesC.zero (N : Nat) : FacesC (List.replicate (20 * N) (.int .i64 0)) N fun _ _ => none := by
  refine ⟨by simp, fun t f ht hf j hj => ?_⟩
  rw [List.getElem?_replicate, if_pos (by omega)]
  match j, hj with
  | 0, _ => rfl
  | 1, _ => rfl
  | 2, _ => rfl
  | 3, _ => rfl
  | 4, _ => rfl
theorem setL_len (vs : List Value) : ∀ (c : List Value) (off : Nat), (setL c off vs).length = c.length := by
  induction vs with
  | nil => intro c off; rfl
  | cons v vs ih => intro c off; rw [show setL c off (v :: vs) = setL (c.set off v) (off + 1) vs from rfl, ih]; simp
theorem FacesC.set {cs : List Value} {N : Nat} {F : Nat → Nat → Option (Nat × Bool)} (h : FacesC cs N F) {t f : Nat} (ht : t < N) (hf : f < 4) (x : Option (Nat × Bool)) : FacesC (setL cs (t * 20 + f * 5) (fcC x)) N (updF F t f x) := by
  refine ⟨by rw [setL_len]; exact h.1, fun t' f' ht' hf' j hj => ?_⟩
  have hl := h.1
  rw [setL_get _ _ _ _ (by rw [fcC_len]; omega), fcC_len]
  unfold updF
  by_cases e : t' = t ∧ f' = f
  · obtain ⟨rfl, rfl⟩ := e
    rw [if_pos (by omega), if_pos ⟨rfl, rfl⟩, Nat.add_sub_cancel_left]
  · rw [if_neg (by omega), if_neg e]
    exact h.2 t' f' ht' hf' j hj
variable {E : Env} (hE : OE E)
include hE
theorem face_ {h : List O} {p fb mb n c : Nat} {a : Option Addr} {L : Int} {cs : List Value} (hb : Bld h p fb mb a n c L cs) {x : Nat × Nat} (h1 : x.1 < n) (h2 : x.2 < 4) {pl : Nat} :
    DR E 162 [.pointer (some ⟨p, 0, none⟩), endV x, .int .i64 pl] ⟨h, h.length⟩ (.ret (outV (4 * x.1 + x.2) (pl % 2))) ⟨h, h.length⟩ := by
  refine hE.fn (body := rb162) rfl ?_
  unfold rb162
  obtain ⟨k1, k2, es, clock, k3, k4⟩ := hb
  have e1 : ∀ l, (h ++ l)[p]? = _ := fun l => app_of k1 l
  have e2 : ∀ l, (h ++ l)[mb]? = _ := fun l => app_of k3 l
  have hl := MapIs.look keyII k4 (st := ⟨h ++ [.cells [.int .i64 x.1, .int .i64 x.2] 184 (some 0), .cells [.int .i64 0, .int .i64 0] 42 (some 0)], h.length⟩) (e2 _) x (.int .i64 0) false
  have hS : cornJ (4 * n) x = some (.int .i64 ((4 * x.1 + x.2 : Nat) : Int)) := by unfold cornJ; rw [if_pos ⟨h2, by omega⟩]
  rw [hS] at hl
  simp [kcII] at hl
  have hc4 : ((4 * x.1 + x.2 : Nat) : Int) = 4 * (x.1 : Int) + x.2 := by omega
  have hm : ((pl : Nat) : Int).tmod 2 = ((pl % 2 : Nat) : Int) := tmod_nat pl 2
  have hpn : p ≠ h.length + 1 := by have := (List.getElem?_eq_some_iff.1 k1).1; omega
  have hmn : mb ≠ h.length + 1 := by have := (List.getElem?_eq_some_iff.1 k3).1; omega
  have hpn0 : p ≠ h.length := by have := (List.getElem?_eq_some_iff.1 k1).1; omega
  have hmn0 : mb ≠ h.length := by have := (List.getElem?_eq_some_iff.1 k3).1; omega
  simp [endV, outV, List.append_assoc, rd_def, e1, rdN_at0, rdN_at, step_lookS, hl, hm, wrN_at, set_at, bit, back_scalar, Out.scalar, scalar, flat1, flat, hpn, hmn, hpn.symm, hmn.symm, hpn0, hmn0, hpn0.symm, hmn0.symm]
theorem along_ {h : List O} {p fb mb n c : Nat} {a : Option Addr} {L : Int} {cs : List Value} {x : Nat → Nat → Int} {s : Nat → Int} (hb : Bld h p fb mb a n c L cs) (hx : CrossP h a n x s) (hS : Snd n x s L) {arc : Nat} (ha : arc < 2 * n) :
    DR E 91 [.pointer (some ⟨p, 0, none⟩), .int .i64 arc] ⟨h, h.length⟩ (.ret (.agg (alongC (dgOf n x s L) arc).toArray)) ⟨h, h.length⟩ := by
  refine hE.fn (body := rb91) rfl ?_
  unfold rb91
  have hG := good_of hS
  have he := ends_ hE (c := c) (L := L) (hx.ext (Ext.snoc h [O.cells [.int .i64 0, .int .i64 0, .int .i64 0, .int .i64 0, .int .i64 0, .int .i64 0, .int .i64 0, .int .i64 0] 112 (some 0)])) hS ha
  obtain ⟨G, hGe⟩ : ∃ G, G = dgOf n x s L := ⟨_, rfl⟩
  have hGn : G.n = n := by rw [hGe]; rfl
  rw [← hGe] at hG he ⊢
  obtain ⟨t0, t1, t2, t3, _⟩ := hG.T arc (by omega)
  rw [hGn] at t0 t2
  have k1 := hb.p
  have e1 : ∀ l, (h ++ l)[p]? = _ := fun l => app_of k1 l
  obtain ⟨lz, hlz⟩ : ∃ l, l = [O.cells [.int .i64 0, .int .i64 0, .int .i64 0, .int .i64 0, .int .i64 0, .int .i64 0, .int .i64 0, .int .i64 0] 112 (some 0), O.cells (cells2 (G.T arc 0, G.T arc 1)) 184 (some 0), O.cells (cells2 (G.T arc 2, G.T arc 3)) 184 (some 0)] := ⟨_, rfl⟩
  have hb2 : Bld (h ++ lz) p fb mb a n c L cs := hb.keep fun b o _ e => app_of e _
  have f0 := face_ hE hb2 (x := (G.T arc 0, G.T arc 1)) t0 t1 (pl := G.T arc 1)
  have f1 := face_ hE hb2 (x := (G.T arc 2, (G.T arc 3 + 3) % 4)) t2 (Nat.mod_lt _ (by omega)) (pl := G.T arc 3)
  have f2 := face_ hE hb2 (x := (G.T arc 0, (G.T arc 1 + 3) % 4)) t0 (Nat.mod_lt _ (by omega)) (pl := G.T arc 1)
  have f3 := face_ hE hb2 (x := (G.T arc 2, G.T arc 3)) t2 t3 (pl := G.T arc 3)
  have u1 := fun h => turned_ hE (h := h) (c := G.T arc 2) (p := G.T arc 3) (e := G.T arc 3 + 3) (d := -1) (by omega) (by omega) t3
  have u2 := fun h => turned_ hE (h := h) (c := G.T arc 0) (p := G.T arc 1) (e := G.T arc 1 + 3) (d := -1) (by omega) (by omega) t1
  simp [hlz, endV, cells2, outV] at f0 f1 f2 f3
  simp only [endV] at u1 u2
  simp [dV, endV] at he
  have hpn0 : p ≠ h.length := by have := (List.getElem?_eq_some_iff.1 k1).1; omega
  simp [rdN_def, e1, DC_of he, wrN_at, set_at, List.append_assoc, joined_fl, app_at, app_at0, DC_of f0, DC_of f1, DC_of f2, DC_of f3, DC_q u1, DC_q u2, rd_def, hpn0, hpn0.symm, wrN_at0, set_at0, bit, back_scalar, Out.scalar, scalar, flat1, flat, alongC, outC, alT, alF]
omit hE in
def joinF (F : Nat → Nat → Option (Nat × Bool)) (ta fa tb fb : Nat) (sw : Bool) : Nat → Nat → Option (Nat × Bool) := updF (updF F ta fa (some (tb, sw))) tb fb (some (ta, sw))
omit hE in
def swV (sw : Bool) : Value := permV (if sw then 1 else 0) (if sw then 0 else 1) 2 3
theorem join_ {h : List O} {p fb N cN : Nat} {rest : List Value} {el : TypeId} {own : Option Nat} {cs : List Value} {F : Nat → Nat → Option (Nat × Bool)} (hp : h[p]? = some (.cells (.slice (some ⟨fb, 0, none⟩) N cN :: rest) el own)) (hfb : h[fb]? = some (.cells cs 100 (some 20)))
    (hF : FacesC cs N F) {ta fa tb fc : Nat} (h1 : ta < N) (h2 : fa < 4) (h3 : tb < N) (h4 : fc < 4) (sw : Bool) (hne : p ≠ fb) :
    DC E 155 [.pointer (some ⟨p, 0, none⟩), outV ta fa, outV tb fc, swV sw] ⟨h, h.length⟩ fun o st' => o = .ret (.tuple #[]) ∧ st'.fl = fb ∧ h.length ≤ st'.h.length ∧ (∀ (b : Nat) (o : O), h[b]? = some o → b ≠ fb → st'.h[b]? = some o) ∧
      ∃ cs', AtB st'.h fb (.cells cs' 100 (some 20)) ∧ FacesC cs' N (joinF F ta fa tb fc sw) := by
  have hF1 := hF.set h1 h2 (some (tb, sw))
  have hF2 := hF1.set h3 h4 (some (ta, sw))
  have lf := (List.getElem?_eq_some_iff.1 hfb).1
  have lp := (List.getElem?_eq_some_iff.1 hp).1
  have e1 : ∀ l, (h ++ l)[p]? = _ := fun l => app_of hp l
  have e2 : ∀ l, (h ++ l)[fb]? = _ := fun l => app_of hfb l
  have hl0 := hF.1
  have b1 : ta * 20 + fa * 5 + 5 ≤ cs.length := by omega
  have b2 : tb * 20 + fc * 5 + 5 ≤ cs.length := by omega
  have b3 : ta * 20 + fa * 5 + 5 ≤ 20 * N := by omega
  have b4 : tb * 20 + fc * 5 + 5 ≤ 20 * N := by omega
  have i1 : (ta : Int) < N := by omega
  have i2 : (tb : Int) < N := by omega
  have i3 : (fa : Int) < 4 := by omega
  have i4 : (fc : Int) < 4 := by omega
  have hinv := fun h => Inverse0 hE (h := h) (a := if sw then 1 else 0) (b := if sw then 0 else 1) (by cases sw <;> simp)
  have hmin : min h.length fb = fb := by omega
  have hnp : ∀ l o, ((h ++ l).set fb o)[p]? = (h ++ l)[p]? := fun l o => List.getElem?_set_ne (Ne.symm hne)
  have hns : ∀ l o, ((h ++ l).set fb o)[fb]? = some o := fun l o => List.getElem?_set_self (by simp; omega)
  have hfn : ∀ k, fb ≠ h.length + k := fun k => by omega
  have hpn : ∀ k, p ≠ h.length + k := fun k => by omega
  have hfn0 : fb ≠ h.length := by omega
  have hpn0 : p ≠ h.length := by omega
  have ha0 : ∀ l o, ((h ++ l).set fb o)[h.length]? = l[0]? := fun l o => by rw [List.getElem?_set_ne (by omega), app_at0]
  have ha1 : ∀ l o k, ((h ++ l).set fb o)[h.length + k]? = l[k]? := fun l o k => by rw [List.getElem?_set_ne (by omega), app_at]
  simp only [permV] at hinv
  have key : DC E 155 [.pointer (some ⟨p, 0, none⟩), outV ta fa, outV tb fc, swV sw] ⟨h, h.length⟩ fun o st' => o = .ret (.tuple #[]) ∧ ∃ l, st' = ⟨(h ++ l).set fb (.cells (setL (setL cs (ta * 20 + fa * 5) (fcC (some (tb, sw)))) (tb * 20 + fc * 5) (fcC (some (ta, sw)))) 100 (some 20)), fb⟩ := by
    refine hE.fnC (body := rb155) rfl ?_
    unfold rb155
    simp [outV, swV, permV, List.append_assoc, rd_def, rdN_def, e1, e2, app_at, app_at0, wrN_def, i1, i2, i3, i4, hl0, b1, b2, b3, b4, hmin, hnp, hns, DC_q hinv, bit, ha0, ha1, setL_len, hfn, hpn, hfn0, hpn0, joined_fl]
    unfold pairQ back
    rw [if_neg (by simp; intro _; omega)]
    exact ⟨rfl, [_, _, _], rfl⟩
  refine key.imp ?_
  rintro o st' ⟨rfl, l, rfl⟩
  refine ⟨rfl, rfl, by simp, fun b o hb hn => set_ne (app_of hb l) hn, _, set_self (e2 l), ?_⟩
  exact hF2
end Go.Proofs.Ytjlkndkedknocaa
namespace Go.Proofs.Ytjlkndkedknocaa
open Go Go.Ai
set_option linter.unusedSimpArgs false
set_option linter.unusedVariables false
attribute [local instance] Classical.propDecidable
variable {E : Env} (hE : OE E)
include hE
theorem round86 {h : List O} {f k p fb pb N cN : Nat} {rest : List Value} {el : TypeId} {own : Option Nat} {cs : List Value} {F : Nat → Nat → Option (Nat × Bool)} {frL : Fr}
    (hk : h[k]? = some (.loop false 77 frL [56, 57] (lcA 86 0) (lcB 86 0))) (g1 : get frL 1 = .pointer (some ⟨pb, 0, none⟩)) (hpb : h[pb]? = some (.cells [.pointer (some ⟨p, 0, none⟩)] 102 (some 0)))
    (hp : h[p]? = some (.cells (.slice (some ⟨fb, 0, none⟩) N cN :: rest) el own)) (hfb : h[fb]? = some (.cells cs 100 (some 20)))
    (hF : FacesC cs N F) {ta fa tb fc : Nat} (h1 : ta < N) (h2 : fa < 4) (h3 : tb < N) (h4 : fc < 4) (hne : p ≠ fb) (hne2 : pb ≠ fb) :
    DC E (yB + k) [outV ta fa, outV tb fc] ⟨h, h.length⟩ fun o st' => o = .ret (.bool true) ∧ ∃ h' cs', joined ⟨h, f⟩ st' = ⟨h', min f (min fb k)⟩ ∧ h.length ≤ h'.length ∧ (∀ (b : Nat) (o : O), h[b]? = some o → b ≠ fb → h'[b]? = some o) ∧
      AtB h' fb (.cells cs' 100 (some 20)) ∧ FacesC cs' N (joinF F ta fa tb fc (!decide (fa = fc))) := by
  have n1 : k ≠ fb := fun e => by subst e; rw [hk] at hfb; cases hfb
  have n2 : k ≠ p := fun e => by subst e; rw [hk] at hp; cases hp
  have n3 : k ≠ pb := fun e => by subst e; rw [hk] at hpb; cases hpb
  have lk := (List.getElem?_eq_some_iff.1 hk).1
  have lfb := (List.getElem?_eq_some_iff.1 hfb).1
  have lp := (List.getElem?_eq_some_iff.1 hp).1
  have lpb := (List.getElem?_eq_some_iff.1 hpb).1
  refine DC_yield (hE.Y k) hk rfl hE.cmp86a hE.cmp86b ?_
  unfold ra86_0
  simp [putAll, outV, wrN_at0, set_at0, List.append_assoc, wrN_at, set_at]
  obtain ⟨H0, hH0⟩ : ∃ H, H = h ++ [O.cells (outC ta fa) 42 (some 0), O.cells (outC tb fc) 42 (some 0)] := ⟨_, rfl⟩
  have k0 : H0[k]? = some (.loop false 77 frL [56, 57] (lcA 86 0) (lcB 86 0)) := by rw [hH0]; exact app_of hk _
  have hH0' := hH0
  simp only [outC] at hH0
  rw [← hH0]
  refine ⟨_, turn_eq k0, ?_⟩
  obtain ⟨H1, hH1⟩ : ∃ H, H = H0.set k (O.loop (!false) 77 frL [56, 57] (lcA 86 0) (lcB 86 0)) := ⟨_, rfl⟩
  have K1 : ∀ (b : Nat) (o : O), h[b]? = some o → b ≠ k → H1[b]? = some o := fun b o hb hn => by rw [hH1]; exact set_ne (by rw [hH0]; exact app_of hb _) hn
  have L1 : H1.length = h.length + 2 := by rw [hH1, hH0]; simp
  have a7 : H1[h.length]? = some (.cells (outC ta fa) 42 (some 0)) := by rw [hH1]; exact set_ne (by rw [hH0', app_at0]; rfl) (by omega)
  have a8 : H1[h.length + 1]? = some (.cells (outC tb fc) 42 (some 0)) := by rw [hH1]; exact set_ne (by rw [hH0', app_at]; rfl) (by omega)
  have kk1 : H1[k]? = some (.loop true 77 frL [56, 57] (lcA 86 0) (lcB 86 0)) := by rw [hH1]; exact set_self k0
  rw [← hH1]
  have p1 := K1 _ _ hpb (Ne.symm n3)
  have q1 := K1 _ _ hp (Ne.symm n2)
  have r1 := K1 _ _ hfb (Ne.symm n1)
  obtain ⟨sw, hsw⟩ : ∃ sw, sw = !decide (fa = fc) := ⟨_, rfl⟩
  obtain ⟨H2, hH2⟩ : ∃ H, H = H1 ++ [O.cells [.int .i64 (if sw then 1 else 0), .int .i64 (if sw then 0 else 1), .int .i64 2, .int .i64 3] 96 (some 0)] := ⟨_, rfl⟩
  have K2 : ∀ (b : Nat) (o : O), H1[b]? = some o → H2[b]? = some o := fun b o hb => by rw [hH2]; exact app_of hb _
  have L2 : H2.length = h.length + 3 := by rw [hH2]; simp [L1]
  have hj := join_ hE (K2 _ _ q1) (K2 _ _ r1) hF h1 h2 h3 h4 sw hne
  have a72 := K2 _ _ a7
  have a82 := K2 _ _ a8
  have p2 := K2 _ _ p1
  have a9 : H2[H1.length]? = some (O.cells [.int .i64 (if sw then 1 else 0), .int .i64 (if sw then 0 else 1), .int .i64 2, .int .i64 3] 96 (some 0)) := by rw [hH2, app_at0]; rfl
  have fin : ∀ st' : St, st'.fl = fb → H2.length ≤ st'.h.length → (∀ (b : Nat) (o : O), H2[b]? = some o → b ≠ fb → st'.h[b]? = some o) → (∃ cs', AtB st'.h fb (.cells cs' 100 (some 20)) ∧ FacesC cs' N (joinF F ta fa tb fc sw)) →
      ∃ st4, turn true k (joined ⟨H2, min h.length k⟩ st') = some st4 ∧ ∃ h', joined ⟨h, f⟩ st4 = ⟨h', min f (min fb k)⟩ ∧ h.length ≤ h'.length ∧ (∀ (b : Nat) (o : O), h[b]? = some o → ¬ b = fb → h'[b]? = some o) ∧
        ∃ cs', AtB h' fb (.cells cs' 100 (some 20)) ∧ FacesC cs' N (joinF F ta fa tb fc sw) := by
    rintro ⟨h3, f3⟩ hfl hlen hkeep ⟨cs', hat, hFC⟩
    simp only at hfl hlen hkeep hat
    have hlow : f3 < H2.length := by omega
    have e1 : joined ⟨H2, min h.length k⟩ ⟨h3, f3⟩ = ⟨h3, min (min h.length k) fb⟩ := by simp only [joined]; rw [if_pos hlow, hfl]
    have kk3 := hkeep _ _ (K2 _ _ kk1) n1
    rw [e1]
    refine ⟨_, turn_eq kk3, ?_⟩
    refine ⟨h3.set k (.loop (!true) 77 frL [56, 57] (lcA 86 0) (lcB 86 0)), ?_, by simp; omega, fun b o hb hn => ?_, cs', set_ne hat (Ne.symm n1), hFC⟩
    · simp only [joined]
      rw [if_pos (by omega)]
      congr 1
      omega
    · by_cases hbk : b = k
      · subst hbk
        rw [hk] at hb
        obtain rfl := Option.some.inj hb
        exact set_self kk3
      · exact set_ne (hkeep _ _ (K2 _ _ (K1 _ _ hb hbk)) hn) hbk
  rw [← hsw]
  simp only [outC] at a7 a8 a72 a82
  have hmin : min (min h.length k) H1.length = min h.length k := by omega
  simp only [outV, swV, permV] at hj
  unfold rl86_0
  by_cases he : fa = fc
  · have hs0 : sw = false := by rw [hsw]; simp [he]
    subst hs0
    simp at hH2 hj a9
    subst he
    simp [g1, rd_def, rdN_def, wrN_at0, set_at0, a7, a8, a72, a82, p2, a9, hmin, ← hH2]
    refine hj.imp ?_
    rintro o st' ⟨rfl, j1, j2, j3, j4⟩
    simp [bit]
    exact fin st' j1 j2 j3 j4
  · have hs1 : sw = true := by rw [hsw]; simp [he]
    subst hs1
    simp at hH2 hj a9
    have a7' : ∀ l, (H1 ++ l)[h.length]? = _ := fun l => app_of a7 l
    have a8' : ∀ l, (H1 ++ l)[h.length + 1]? = _ := fun l => app_of a8 l
    have a70 : ∀ l, (H1 ++ l)[pb]? = _ := fun l => app_of p1 l
    simp [g1, rd_def, rdN_def, wrN_at0, set_at0, app_at0, a7', a8', a70, a72, a82, p2, a9, he, hmin, ← hH2, List.append_assoc]
    refine hj.imp ?_
    rintro o st' ⟨rfl, j1, j2, j3, j4⟩
    simp [bit]
    exact fin st' j1 j2 j3 j4
end Go.Proofs.Ytjlkndkedknocaa
namespace Go.Proofs.Ytjlkndkedknocaa
open Go Go.Ai
set_option linter.unusedSimpArgs false
set_option linter.unusedVariables false
attribute [local instance] Classical.propDecidable
/-- The gluing behind the first j corners. -/
def glC : Nat → Nat → Nat → Option (Nat × Bool)
  | 0 => fun _ _ => none
  | j + 1 => joinF (glC j) j (3 - (j % 4 + 1) % 4 % 2) (4 * (j / 4) + (j % 4 + 1) % 4) (3 - (j % 4 + 1) % 4 % 2) false
def glJ (G : Dg) (a k : Nat) (F : Nat → Nat → Option (Nat × Bool)) : Nat → Nat → Option (Nat × Bool) := joinF F (alT G a k) (alF G a k) (alT G a (k + 1)) (alF G a (k + 1)) (!decide (alF G a k = alF G a (k + 1)))
/-- The gluing behind the first arcs. -/
def glA (G : Dg) : Nat → Nat → Nat → Option (Nat × Bool)
  | 0 => glC (4 * G.n)
  | a + 1 => glJ G a 2 (glJ G a 0 (glA G a))
/-- The gluing of an outside. -/
def outF (G : Dg) : Nat → Nat → Option (Nat × Bool) := glA G (2 * G.n)
variable {E : Env} (hE : OE E)
include hE
theorem pairs216 {h00 hK : List O} {k p fb mb pb pb2 n c : Nat} {a : Option Addr} {L : Int} {csK : List Value} {x : Nat → Nat → Int} {s : Nat → Int} {frL : Fr} (hx : CrossP h00 a n x s) (hS : Snd n x s L) (hn : 0 < n) (hs0 : Sub h00 hK) (hfb0 : h00.length ≤ fb)
    (hk : hK[k]? = some (.loop false 77 frL [56, 57] (lcA 86 0) (lcB 86 0))) (g1 : get frL 1 = .pointer (some ⟨pb, 0, none⟩)) (hpb : hK[pb]? = some (.cells [.pointer (some ⟨p, 0, none⟩)] 102 (some 0)))
    (hpb2 : hK[pb2]? = some (.cells [.pointer (some ⟨p, 0, none⟩)] 102 (some 0))) (hb : Bld hK p fb mb a n c L csK) (hF : FacesC csK (4 * n) (glC (4 * n))) :
    DC E 216 [tok k, .pointer (some ⟨pb2, 0, none⟩)] ⟨hK, hK.length⟩ fun o st' => o = .ret (.tuple #[]) ∧ st'.fl = min fb k ∧ hK.length ≤ st'.h.length ∧ (∀ (b : Nat) (o : O), hK[b]? = some o → b ≠ fb → st'.h[b]? = some o) ∧
      ∃ cs', AtB st'.h fb (.cells cs' 100 (some 20)) ∧ FacesC cs' (4 * n) (outF (dgOf n x s L)) := by
  refine hE.fnC (body := rb216) rfl ?_
  unfold rb216
  have hG := good_of hS
  obtain ⟨G, hGe⟩ : ∃ G, G = dgOf n x s L := ⟨_, rfl⟩
  have hGn : G.n = n := by rw [hGe]; rfl
  rw [← hGe] at hG ⊢
  have hsz := hG.size
  have k1 := hb.p
  have lk := (List.getElem?_eq_some_iff.1 hk).1
  have lfb := (List.getElem?_eq_some_iff.1 hb.fb).1
  have npf : p ≠ fb := fun e => by have := hb.fb; rw [← e, k1] at this; simp at this
  have nmf : mb ≠ fb := fun e => by obtain ⟨es, cl, h1, _⟩ := hb.mb; have := hb.fb; rw [← e, h1] at this; cases this
  have nbf : pb ≠ fb := fun e => by have := hb.fb; rw [← e, hpb] at this; simp at this
  have nbf2 : pb2 ≠ fb := fun e => by have := hb.fb; rw [← e, hpb2] at this; simp at this
  have nkf : k ≠ fb := fun e => by have := hb.fb; rw [← e, hk] at this; cases this
  have hw2n : IntKind.i64.wrap (2 * (n : Int)) = 2 * n := by rw [w64_id] <;> omega
  simp [rd_def, hpb2, k1, hw2n, tok]
  refine DW_loop (fun kk fr st => ∃ (i : Nat) (h : List O) (f : Nat) (cs : List Value), i + kk = 2 * n ∧ st = ⟨h, f⟩ ∧ min fb k ≤ f ∧ (0 < i → f = min fb k) ∧ hK.length ≤ h.length ∧ (∀ (b : Nat) (o : O), hK[b]? = some o → b ≠ fb → h[b]? = some o) ∧ AtB h fb (.cells cs 100 (some 20)) ∧ FacesC cs (4 * n) (glA G i) ∧
    get fr 0 = tok k ∧ get fr 1 = .pointer (some ⟨pb2, 0, none⟩) ∧ get fr 11 = .int .i64 (2 * n) ∧ get fr 12 = .int .i64 i) ?_ (k := 2 * n) ?_
  · rintro kk fr st ⟨i, h, f, cs, hik, rfl, hf1, hf2, hlen, hkeep, hatB, hFC, g0, g1', g11, g12⟩
    have hat := hatB
    unfold AtB at hat
    by_cases hi : i < 2 * n
    · have hi' : (i : Int) < 2 * n := by omega
      have hw : IntKind.i64.wrap ((i : Int) + 1) = (i : Int) + 1 := by rw [w64_id] <;> omega
      have hbh : Bld h p fb mb a n c L cs := by
        obtain ⟨es, cl, m1, m2⟩ := hb.mb
        exact ⟨hkeep _ _ k1 npf, hat, es, cl, hkeep _ _ m1 nmf, m2⟩
      have hs0h : Sub h00 h := fun b o hb' => hkeep _ _ (hs0 b o hb') (by have := (List.getElem?_eq_some_iff.1 hb').1; omega)
      have hA := along_ hE hbh (hx.sub hs0h) hS (arc := i) (by omega)
      rw [← hGe] at hA
      have hpbh := hkeep _ _ hpb nbf
      have hpbh2 := hkeep _ _ hpb2 nbf2
      have lpb := (List.getElem?_eq_some_iff.1 hpbh).1
      obtain ⟨H, hH⟩ : ∃ H, H = h ++ [O.cells (alongC G i) 112 (some 0)] := ⟨_, rfl⟩
      have hHs : Sub h H := by rw [hH]; exact (Sub.refl _).app _
      have hHa : H[h.length]? = some (.cells (alongC G i) 112 (some 0)) := by rw [hH, app_at0]; rfl
      obtain ⟨q0, q0'⟩ := alT_lt hG (a := i) (by omega) 0
      obtain ⟨q1, q1'⟩ := alT_lt hG (a := i) (by omega) 1
      obtain ⟨q2, q2'⟩ := alT_lt hG (a := i) (by omega) 2
      obtain ⟨q3, q3'⟩ := alT_lt hG (a := i) (by omega) 3
      rw [hGn] at q0 q1 q2 q3
      have hkh := hkeep _ _ hk nkf
      have r1 := round86 hE (f := min f h.length) (hHs _ _ hkh) g1 (hHs _ _ hpbh) (hHs _ _ hbh.p) (hHs _ _ hat) hFC q0 q0' q1 q1' npf nbf
      have hone : ∀ z, (alongC G i).all z = ([Value.int .i64 (alT G i 0), .int .i64 (alF G i 0), .int .i64 (alT G i 1), .int .i64 (alF G i 1), .int .i64 (alT G i 2), .int .i64 (alF G i 2), .int .i64 (alT G i 3), .int .i64 (alF G i 3)] : List Value).all z := fun z => rfl
      have hac : alongC G i = [Value.int .i64 (alT G i 0), .int .i64 (alF G i 0), .int .i64 (alT G i 1), .int .i64 (alF G i 1), .int .i64 (alT G i 2), .int .i64 (alF G i 2), .int .i64 (alT G i 3), .int .i64 (alF G i 3)] := rfl
      rw [hac] at hA hH hHa
      simp only [tok] at g0
      have hpn : pb ≠ h.length := by omega
      simp [g0, g1', g11, g12, hi', rd_def, hpbh2, DC_of hA, wrN_at0, set_at0, ← hH, rdN_def, hHa]
      simp only [outV] at r1
      refine r1.imp ?_
      rintro o st' ⟨rfl, h1, cs1, hj, l1, keep1, hat1, hF1⟩
      simp only [callK_ret, hj]
      have hmm : min (min f h.length) (min fb k) = min fb k := by omega
      rw [hmm]
      have nhf : h.length ≠ fb := by omega
      have hHa1 := keep1 _ _ hHa nhf
      have r2 := round86 hE (f := min fb k) (keep1 _ _ (hHs _ _ hkh) nkf) g1 (keep1 _ _ (hHs _ _ hpbh) nbf) (keep1 _ _ (hHs _ _ hbh.p) npf) hat1 hF1 q2 q2' q3 q3' npf nbf
      simp only [outV] at r2
      simp [g0, g1', g11, g12, rdN_def, hHa1]
      refine r2.imp ?_
      rintro o st' ⟨rfl, h2, cs2, hj2, l2, keep2, hat2, hF2⟩
      simp only [callK_ret, hj2]
      have hmm2 : min (min fb k) (min fb k) = min fb k := by omega
      rw [hmm2]
      simp [g0, g1', g11, g12, hw]
      refine ⟨kk - 1, by omega, i + 1, by omega, h2, min fb k, ⟨rfl, rfl⟩, Nat.le_refl _, fun _ => rfl, ?_, fun b o hb' hn' => keep2 _ _ (keep1 _ _ (hHs _ _ (hkeep b o hb' hn')) hn') hn', cs2, hat2, hF2, rfl, by omega⟩
      have := hHs.len
      omega
    · have hin : i = 2 * n := by omega
      subst hin
      simp [g0, g1', g11, g12]
      unfold pairQ back
      have hf3 := hf2 (by omega)
      rw [if_neg (by simp; intro _; omega)]
      refine ⟨rfl, hf3, hlen, hkeep, cs, hatB, ?_⟩
      unfold outF
      rw [hGn]; exact hFC
  · refine ⟨0, hK, hK.length, csK, by omega, rfl, by omega, fun h => by omega, Nat.le_refl _, fun b o hb' _ => hb', hb.fb, ?_, by simp [tok]⟩
    show FacesC csK (4 * n) (glC (4 * G.n))
    rw [hGn]; exact hF
end Go.Proofs.Ytjlkndkedknocaa
namespace Go.Proofs.Ytjlkndkedknocaa
open Go Go.Ai
set_option linter.unusedSimpArgs false
set_option linter.unusedVariables false
attribute [local instance] Classical.propDecidable
variable {E : Env} (hE : OE E)
include hE
theorem pairs_ {h : List O} {p : Nat} : DR E 156 [.pointer (some ⟨p, 0, none⟩)] ⟨h, h.length⟩ (.ret (.func (.func 216) #[] #[.pointer (some ⟨h.length, 0, none⟩)])) ⟨h ++ [.cells [.pointer (some ⟨p, 0, none⟩)] 102 (some 0)], h.length⟩ := by
  refine hE.fn (body := rb156) rfl ?_
  unfold rb156
  simp [back, Out.scalar, scalar, flat1, flat]
theorem build_ {h00 h0 : List O} {p fb mb n c : Nat} {a : Option Addr} {L : Int} {x : Nat → Nat → Int} {s : Nat → Int} (hx : CrossP h00 a n x s) (hS : Snd n x s L) (hn : 0 < n) (hs0 : Sub h00 h0) (hfb0 : h00.length ≤ fb)
    (hb : Bld h0 p fb mb a n c L (List.replicate (80 * n) (.int .i64 0))) :
    DC E 86 [.pointer (some ⟨p, 0, none⟩)] ⟨h0, h0.length⟩ fun o st' => o = .ret (.agg #[.slice (some ⟨fb, 0, none⟩) (4 * n) (4 * n)]) ∧ fb ≤ st'.fl ∧ h0.length ≤ st'.h.length ∧ (∀ (b : Nat) (o : O), h0[b]? = some o → b ≠ fb → st'.h[b]? = some o) ∧
      ∃ cs', AtB st'.h fb (.cells cs' 100 (some 20)) ∧ FacesC cs' (4 * n) (outF (dgOf n x s L)) := by
  refine hE.fnC (body := rb86) rfl ?_
  unfold rb86
  have hsz := hS.size
  have k1 := hb.p
  have kf := hb.fb
  obtain ⟨es, cl, km, kM⟩ := hb.mb
  have lfb := (List.getElem?_eq_some_iff.1 kf).1
  have lp := (List.getElem?_eq_some_iff.1 k1).1
  have lm := (List.getElem?_eq_some_iff.1 km).1
  have npf : p ≠ fb := fun e => by rw [← e, k1] at kf; simp at kf
  have nmf : mb ≠ fb := fun e => by rw [← e, km] at kf; cases kf
  have e1 : ∀ l, (h0 ++ l)[p]? = _ := fun l => app_of k1 l
  simp [rd_def, rdN_def, wrN_def, List.append_assoc, app_at, app_at0, e1]
  obtain ⟨hB, hhB⟩ : ∃ H, H = h0 ++ [O.cells [.pointer (some ⟨p, 0, none⟩)] 102 (some 0), O.cells [.slice none 0 0] 29 (some 0)] := ⟨_, rfl⟩
  have hBs : Sub h0 hB := by rw [hhB]; exact (Sub.refl _).app _
  have hB0 : hB[h0.length]? = some (O.cells [.pointer (some ⟨p, 0, none⟩)] 102 (some 0)) := by rw [hhB, app_at0]; rfl
  have hB1 : hB[h0.length + 1]? = some (O.cells [.slice none 0 0] 29 (some 0)) := by rw [hhB, app_at]; rfl
  have lB : hB.length = h0.length + 2 := by rw [hhB]; simp
  rw [← hhB]
  refine DW_loop (fun kk fr st => ∃ (i : Nat) (h : List O) (f : Nat) (cs : List Value), i + kk = n ∧ st = ⟨h, f⟩ ∧ fb ≤ f ∧ hB.length ≤ h.length ∧ (∀ (b : Nat) (o : O), hB[b]? = some o → b ≠ fb → h[b]? = some o) ∧ AtB h fb (.cells cs 100 (some 20)) ∧ FacesC cs (4 * n) (glC (4 * i)) ∧
    get fr 1 = .pointer (some ⟨h0.length, 0, none⟩) ∧ get fr 2 = .pointer (some ⟨h0.length + 1, 0, none⟩) ∧ get fr 15 = .int .i64 n ∧ get fr 16 = .int .i64 i) ?_ (k := n) ?_
  · rintro kk fr st ⟨i, h, f, cs, hik, rfl, hf, hlen, hkeep, hatB, hFC, g1, g2, g15, g16⟩
    by_cases hi : i < n
    · simp [g1, g2, g15, g16, hi]
      refine DW_loop (fun kk' fr st => ∃ (q : Nat) (h : List O) (f : Nat) (cs : List Value), q + kk' = 4 ∧ st = ⟨h, f⟩ ∧ fb ≤ f ∧ hB.length ≤ h.length ∧ (∀ (b : Nat) (o : O), hB[b]? = some o → b ≠ fb → h[b]? = some o) ∧ AtB h fb (.cells cs 100 (some 20)) ∧ FacesC cs (4 * n) (glC (4 * i + q)) ∧
        get fr 1 = .pointer (some ⟨h0.length, 0, none⟩) ∧ get fr 2 = .pointer (some ⟨h0.length + 1, 0, none⟩) ∧ get fr 15 = .int .i64 n ∧ get fr 16 = .int .i64 i ∧ get fr 3 = .int .i64 i ∧ get fr 19 = .int .i64 q) ?_ (k := 4) ?_
      · clear g1 g2 g15 g16 hFC hatB hkeep hlen hf
        clear h f cs
        rintro kk' fr st ⟨q, h, f, cs, hqk, rfl, hf, hlen, hkeep, hatB, hFC, g1, g2, g15, g16, g3, g19⟩
        have hat := hatB
        unfold AtB at hat
        by_cases hq : q < 4
        · have hq' : (q : Int) < 4 := by omega
          have hw : IntKind.i64.wrap ((q : Int) + 1) = (q : Int) + 1 := by rw [w64_id] <;> omega
          have nf1 : h0.length ≠ fb := by omega
          have hp := hkeep _ _ (hBs _ _ k1) npf
          have hm := hkeep _ _ (hBs _ _ km) nmf
          have hb0 := hkeep _ _ hB0 nf1
          obtain ⟨H, hH⟩ : ∃ H, H = h ++ [O.cells [.int .i64 i, .int .i64 q] 184 (some 0)] := ⟨_, rfl⟩
          have hHs : Sub h H := by rw [hH]; exact (Sub.refl _).app _
          have hHa : H[h.length]? = some (O.cells [.int .i64 i, .int .i64 q] 184 (some 0)) := by rw [hH, app_at0]; rfl
          have hu := fun h => turned_ hE (h := h) (c := i) (p := q) (e := q + 1 + 4) (d := 1) (by omega) (by omega) hq
          rw [show (q + 1 + 4) % 4 = (q + 1) % 4 by omega] at hu
          simp only [endV] at hu
          obtain ⟨q1, hq1⟩ : ∃ q1, q1 = (q + 1) % 4 := ⟨_, rfl⟩
          have hq14 : q1 < 4 := by omega
          rw [← hq1] at hu
          have hl1 := MapIs.look keyII kM (st := ⟨H, min f h.length⟩) (hHs _ _ hm) (i, q) (.int .i64 0) false
          have hl2 := MapIs.look keyII kM (st := ⟨H, min f h.length⟩) (hHs _ _ hm) (i, q1) (.int .i64 0) false
          have s1 : cornJ (4 * n) (i, q) = some (.int .i64 ((4 * i + q : Nat) : Int)) := by unfold cornJ; rw [if_pos ⟨hq, by simp only; omega⟩]
          have s2 : cornJ (4 * n) (i, q1) = some (.int .i64 ((4 * i + q1 : Nat) : Int)) := by unfold cornJ; rw [if_pos ⟨hq14, by simp only; omega⟩]
          rw [s1] at hl1
          rw [s2] at hl2
          simp [kcII] at hl1 hl2
          have hm2 : ((q1 : Nat) : Int).tmod 2 = ((q1 % 2 : Nat) : Int) := tmod_nat q1 2
          obtain ⟨fc, hfc⟩ : ∃ fc : Nat, fc = 3 - q1 % 2 := ⟨_, rfl⟩
          have hw3 : IntKind.i64.wrap (3 - (q1 : Int) % 2) = (fc : Int) := by rw [w64_id] <;> omega
          have hj := join_ hE (hHs _ _ hp) (hHs _ _ hat) hFC (ta := 4 * i + q) (fa := fc) (tb := 4 * i + q1) (fc := fc) (by omega) (by omega) (by omega) (by omega) false npf
          have hjF : joinF (glC (4 * i + q)) (4 * i + q) fc (4 * i + q1) fc false = glC (4 * i + q + 1) := by
            simp only [glC]
            rw [show (4 * i + q) % 4 = q by omega, show (4 * i + q) / 4 = i by omega, ← hq1, ← hfc]
          rw [hjF] at hj
          simp [outV, swV, permV] at hj
          have hmodq : (q1 : Int) % 2 = ((q1 % 2 : Nat) : Int) := by omega
          simp [g1, g2, g15, g16, g3, g19, hq', wrN_at0, set_at0, ← hH, rdN_def, hHa, DC_q hu, partL, hm2, hw3, rd_def, hHs _ _ hb0, hHs _ _ hp, step_lookS, hl1, hl2]
          refine hj.imp ?_
          rintro o ⟨h3, f3⟩ ⟨rfl, j1, j2, j3, cs', j4, j5⟩
          simp only at j1 j2 j3 j4
          subst j1
          have lfH : f3 < H.length := by have := hHs.len; omega
          have hjo : joined ⟨H, min f h.length⟩ ⟨h3, f3⟩ = ⟨h3, f3⟩ := by
            simp only [joined]
            rw [if_pos lfH]
            congr 1
            have := hHs.len
            omega
          simp [lfH, bit, hjo, g1, g2, g15, g16, g3, g19, hw]
          refine ⟨kk' - 1, by omega, q + 1, by omega, h3, f3, ⟨rfl, rfl⟩, Nat.le_refl _, ?_, fun b o hb' hn' => j3 _ _ (hHs _ _ (hkeep b o hb' hn')) hn', cs', j4, j5, by omega⟩
          have := hHs.len
          omega
        · have hq4 : q = 4 := by omega
          subst hq4
          have hw : IntKind.i64.wrap ((i : Int) + 1) = (i : Int) + 1 := by rw [w64_id] <;> omega
          simp [g1, g2, g15, g16, g3, g19, hw]
          exact ⟨kk - 1, by omega, i + 1, by omega, h, f, ⟨rfl, rfl⟩, hf, hlen, hkeep, cs, hatB, hFC, by omega⟩
      · exact ⟨0, h, f, cs, by omega, rfl, hf, hlen, hkeep, hatB, hFC, by simp [g1, g2, g15, g16]⟩
    · have hin : i = n := by omega
      subst hin
      have nf1 : h0.length ≠ fb := by omega
      have hb0 := hkeep _ _ hB0 nf1
      have hb1 := hkeep _ _ hB1 (by omega)
      have hp := hkeep _ _ (hBs _ _ k1) npf
      have hpr := pairs_ hE (h := h) (p := p)
      simp [g1, g2, g15, g16, rd_def, hb0, DC_of hpr, joined_fl]
      obtain ⟨h', hh'⟩ : ∃ H, H = h ++ [O.cells [.pointer (some ⟨p, 0, none⟩)] 102 (some 0)] := ⟨_, rfl⟩
      have hs' : Sub h h' := by rw [hh']; exact (Sub.refl _).app _
      have hpb2 : h'[h.length]? = some (O.cells [.pointer (some ⟨p, 0, none⟩)] 102 (some 0)) := by rw [hh', app_at0]; rfl
      have l' : h'.length = h.length + 1 := by rw [hh']; simp
      rw [← hh']
      refine DW_rangeF (f := 216) (vs := [tok h'.length, .pointer (some ⟨h.length, 0, none⟩)]) (by simp) (by decide) ?_
      obtain ⟨frL, hfrL⟩ : ∃ frL, frL = put (put (put fr 17 (Value.bool false)) 54 (Value.pointer (some ⟨p, 0, none⟩))) 55 (Value.func (.func 216) #[] #[.pointer (some ⟨h.length, 0, none⟩)]) := ⟨_, rfl⟩
      rw [← hfrL]
      have g1L : get frL 1 = .pointer (some ⟨h0.length, 0, none⟩) := by rw [hfrL]; simp [g1]
      have g2L : get frL 2 = .pointer (some ⟨h0.length + 1, 0, none⟩) := by rw [hfrL]; simp [g2]
      obtain ⟨hK, hhK⟩ : ∃ H, H = h' ++ [O.loop false 77 frL [56, 57] (lcA 86 0) (lcB 86 0)] := ⟨_, rfl⟩
      have hsK : Sub h' hK := by rw [hhK]; exact (Sub.refl _).app _
      have hkK : hK[h'.length]? = some (O.loop false 77 frL [56, 57] (lcA 86 0) (lcB 86 0)) := by rw [hhK, app_at0]; rfl
      have lK : hK.length = h'.length + 1 := by rw [hhK]; simp
      rw [← hhK, ← lK]
      have hlfb := (List.getElem?_eq_some_iff.1 hatB).1
      have hs00 : Sub h00 hK := fun b o hb' => hsK _ _ (hs' _ _ (hkeep _ _ (hBs _ _ (hs0 b o hb')) (by have := (List.getElem?_eq_some_iff.1 hb').1; omega)))
      have hbK : Bld hK p fb mb a i c L cs := ⟨hsK _ _ (hs' _ _ hp), hsK _ _ (hs' _ _ hatB), es, cl, hsK _ _ (hs' _ _ (hkeep _ _ (hBs _ _ km) nmf)), kM⟩
      refine (pairs216 hE hx hS hn hs00 hfb0 hkK g1L (hsK _ _ (hs' _ _ hb0)) (hsK _ _ hpb2) hbK hFC).imp ?_
      rintro o ⟨h2, f2⟩ ⟨rfl, j1, j2, j3, cs', j4, j5⟩
      simp only at j1 j2 j3 j4
      have hmin : min fb h'.length = fb := by omega
      rw [hmin] at j1
      subst j1
      have hjo : joined ⟨hK, f⟩ ⟨h2, f2⟩ = ⟨h2, f2⟩ := by
        simp only [joined]
        rw [if_pos (by omega)]
        congr 1
        omega
      have nk : h'.length ≠ f2 := by omega
      have hk2 := j3 _ _ hkK nk
      refine ⟨⟨_, rfl⟩, ⟨h2.set h'.length .dead, f2⟩, by rw [hjo, over_eq hk2, hmin], ?_⟩
      have KK : ∀ (b : Nat) (o : O), h[b]? = some o → b ≠ f2 → (h2.set h'.length .dead)[b]? = some o := fun b o hb' hn' => by
        have := (List.getElem?_eq_some_iff.1 hb').1
        exact set_ne (j3 _ _ (hsK _ _ (hs' _ _ hb')) hn') (by omega)
      have r0 := KK _ _ hb0 nf1
      have r1 := KK _ _ hb1 (by omega)
      have rp := KK _ _ hp npf
      have rf : AtB (h2.set h'.length .dead) f2 (.cells cs' 100 (some 20)) := set_ne j4 (by omega)
      obtain ⟨h3, hh3⟩ : ∃ H, H = h2.set h'.length O.dead := ⟨_, rfl⟩
      have l3 : h3.length = h2.length := by rw [hh3]; simp
      rw [← hh3] at r0 r1 rp rf KK ⊢
      have hmin2 : min f2 (h0.length + 1) = f2 := by omega
      have hself : ∀ o, (h3.set (h0.length + 1) o)[h0.length + 1]? = some o := fun o => set_self r1
      simp [rd_def, rdN_def, wrN_def, g1L, g2L, r0, rp, r1, hmin2, hself]
      unfold pairQ back
      rw [if_neg (by simp [Out.scalar, scalar, flat1, flat])]
      refine ⟨rfl, Nat.le_refl _, by simp; omega, fun b o hb' hn' => set_ne (KK _ _ (hkeep _ _ (hBs _ _ hb') hn') hn') (by have := (List.getElem?_eq_some_iff.1 hb').1; omega), cs', set_ne rf (by omega), j5⟩
  · refine ⟨0, hB, h0.length, List.replicate (80 * n) (.int .i64 0), by omega, rfl, by omega, Nat.le_refl _, fun b o hb' _ => hb', hBs _ _ kf, ?_, by simp⟩
    rw [show 80 * n = 20 * (4 * n) by omega]
    exact FacesC.zero _
end Go.Proofs.Ytjlkndkedknocaa
