/- Texts that were built one by one: Wa3, Wa4, Wb1, Wb2, Wa5, Wb3, Wb4, Wb5, Wc1, Wc2, Wc4, Wc5, Wc6. -/
import Derived.Test.YtjlkndkedknocaaMf
import Derived.Test.YtjlkndkedknocaaMd
namespace Go.Proofs.Ytjlkndkedknocaa
open Go Go.Ai
set_option linter.unusedSimpArgs false
set_option linter.unusedVariables false
attribute [local instance] Classical.propDecidable
structure LkI (h0 h : List O) (a : Option Addr) (n c : Nat) (L : Int) (N : Nat) (uv : Value) (ar : List Int) (es : List MapEntry) (clock : Nat) (cnt : Int) : Prop where
  sub : Sub h0 h
  dg : AtB h h0.length (.cells [.slice a n c, .int .i64 L] 24 (some 0))
  ar : AtB h (h0.length + 1) (.cells (intsC ar) 3 (some 0))
  mp : AtB h (h0.length + 2) (.map es clock)
  lk : AtB h (h0.length + 3) (.cells (linkC uv a n c L (.slice (some ⟨h0.length + 1, 0, none⟩) N N) cnt (.slice none 0 0) 0 (.map (some (h0.length + 2)))) 170 (some 0))
theorem LkI.app {h0 h : List O} {a : Option Addr} {n c : Nat} {L : Int} {N : Nat} {uv : Value} {ar : List Int} {es : List MapEntry} {clock : Nat} {cnt : Int} (k : LkI h0 h a n c L N uv ar es clock cnt) (l : List O) : LkI h0 (h ++ l) a n c L N uv ar es clock cnt :=
  ⟨k.sub.app l, app_of k.dg l, app_of k.ar l, app_of k.mp l, app_of k.lk l⟩
theorem LkI.set {h0 h : List O} {a : Option Addr} {n c : Nat} {L : Int} {N : Nat} {uv : Value} {ar : List Int} {es : List MapEntry} {clock : Nat} {cnt : Int} (k : LkI h0 h a n c L N uv ar es clock cnt) {b : Nat} (hb : h0.length + 4 ≤ b) (o : O) : LkI h0 (h.set b o) a n c L N uv ar es clock cnt :=
  ⟨k.sub.set (by omega) o, set_ne k.dg (by omega), set_ne k.ar (by omega), set_ne k.mp (by omega), set_ne k.lk (by omega)⟩
theorem LkI.setM {h0 h : List O} {a : Option Addr} {n c : Nat} {L : Int} {N : Nat} {uv : Value} {ar : List Int} {es es' : List MapEntry} {clock clock' : Nat} {cnt : Int} (k : LkI h0 h a n c L N uv ar es clock cnt) : LkI h0 (h.set (h0.length + 2) (.map es' clock')) a n c L N uv ar es' clock' cnt :=
  ⟨k.sub.set (by omega) _, set_ne k.dg (by omega), set_ne k.ar (by omega), set_self k.mp, set_ne k.lk (by omega)⟩
theorem LkI.setA {h0 h : List O} {a : Option Addr} {n c : Nat} {L : Int} {N : Nat} {uv : Value} {ar ar' : List Int} {es : List MapEntry} {clock : Nat} {cnt : Int} (k : LkI h0 h a n c L N uv ar es clock cnt) : LkI h0 (h.set (h0.length + 1) (.cells (intsC ar') 3 (some 0))) a n c L N uv ar' es clock cnt :=
  ⟨k.sub.set (by omega) _, set_ne k.dg (by omega), set_self k.ar, set_ne k.mp (by omega), set_ne k.lk (by omega)⟩
theorem LkI.setL {h0 h : List O} {a : Option Addr} {n c : Nat} {L : Int} {N : Nat} {uv uv' : Value} {ar : List Int} {es : List MapEntry} {clock : Nat} {cnt cnt' : Int} (k : LkI h0 h a n c L N uv ar es clock cnt) : LkI h0 (h.set (h0.length + 3) (.cells (linkC uv' a n c L (.slice (some ⟨h0.length + 1, 0, none⟩) N N) cnt' (.slice none 0 0) 0 (.map (some (h0.length + 2)))) 170 (some 0))) a n c L N uv' ar es clock cnt' :=
  ⟨k.sub.set (by omega) _, set_ne k.dg (by omega), set_ne k.ar (by omega), set_ne k.mp (by omega), set_self k.lk⟩
variable {E : Env} (hE : OE E)
include hE
theorem newLink_ {h0 : List O} {a : Option Addr} {n c : Nat} {x : Nat → Nat → Int} {s : Nat → Int} {L : Int} (hx : CrossP h0 a n x s) (hk : kindD n x s L = 0) :
    DC E 130 [dV a n c L] ⟨h0, h0.length⟩ fun o st' => ∃ (pl k : Nat) (xs : List Int), o = .ret (.pointer (some ⟨pl, 0, none⟩)) ∧ h0.length ≤ pl ∧ h0.length ≤ st'.fl ∧ Sub h0 st'.h ∧ LinkP st'.h pl n x s L k xs := by
  refine hE.fnC (body := rb130) rfl ?_
  unfold rb130
  have hS := (kind_zero hk).1
  obtain ⟨G, hGe⟩ : ∃ G, G = dgOf n x s L := ⟨_, rfl⟩
  have hG : GoodG G := by rw [hGe]; exact good_of hS
  have hGn : G.n = n := by rw [hGe]; rfl
  have hsz := hG.size
  have hlo := hG.loops
  have hGL : G.L = L := by rw [hGe]; rfl
  rw [hGL] at hlo
  rw [hGn] at hsz
  obtain ⟨N, hN⟩ : ∃ N, N = 2 * n := ⟨_, rfl⟩
  have hX : ∀ i q, i < n → q < 4 → x i q = (G.X i q : Int) := fun i q hi hq => by rw [hGe]; exact sound_x hS hi hq
  have hXlt : ∀ i q, i < n → q < 4 → G.X i q < N := fun i q hi hq => by rw [hN, ← hGn]; exact hG.X i q (by rw [hGn]; exact hi) hq
  have e1 : (N : Int) * 8 ≤ 140737488355328 := by omega
  have e2 : (N : Int) < 4611686018427387904 := by omega
  have hw2n : IntKind.i64.wrap (2 * (n : Int)) = N := by rw [w64_id] <;> omega
  simp [dV, rd_at0, rdN_at0, hw2n, e1, e2, List.append_assoc]
  refine DW_loop (fun kk fr st => ∃ (i : Nat) (h : List O) (uv : Value), i + kk = N ∧ st = ⟨h, h0.length⟩ ∧ LkI h0 h a n c L N uv (List.replicate N 0) [] 0 0 ∧ OwnS h (h0.length + 4) uv i (intsC (idL i)) 3 1 ∧
    get fr 1 = .pointer (some ⟨h0.length, 0, none⟩) ∧ get fr 3 = .int .i64 N ∧ get fr 4 = .pointer (some ⟨h0.length + 3, 0, none⟩) ∧ get fr 21 = .int .i64 N ∧ get fr 22 = .int .i64 i) ?_ (k := N) ?_
  · rintro kk fr st ⟨i, h, uv, hik, rfl, hI, hu, g1, g3, g4, g21, g22⟩
    have b3 := hI.lk
    unfold AtB linkC at b3
    have hl3 := (List.getElem?_eq_some_iff.1 b3).1
    have hmin : min h0.length (h0.length + 3) = h0.length := by omega
    by_cases hi : i < N
    · have hw : IntKind.i64.wrap ((i : Int) + 1) = (i : Int) + 1 := by rw [w64_id] <;> omega
      have hu2 : OwnS (h ++ [.cells [.int .i64 i] 3 (some 0)]) (h0.length + 4) uv i (intsC (idL i)) 3 1 := hu.ext (Ext.snoc _ _)
      have hread : readSlice (h ++ [.cells [.int .i64 i] 3 (some 0)]) 1 1 (some ⟨h.length, 0, none⟩) = some [.int .i64 i] := by simp [readSlice, rdN_at0]
      obtain ⟨b', H4, f4, happ, hb', hown, hf1, hf2, hL4, K4⟩ := append_S (fl := h0.length) (c := 1) (bytes := 8) hu2 hread (by simp) (by simp) (by simp; omega) (by simp only [roomMax]; omega) (by omega)
      obtain rfl : f4 = h0.length := by omega
      have hne : ∀ (b : Nat), b < h0.length + 4 → ∀ n' c', uv ≠ .slice (some ⟨b, 0, none⟩) n' c' := fun b hb n' c' e => by
        rcases hu.2 with ⟨h1, _⟩ | ⟨b2, s2, h1, h2, _⟩
        · rw [e] at h1; cases h1
        · rw [e] at h1
          simp only [Value.slice.injEq, Option.some.injEq, Addr.mk.injEq] at h1
          omega
      have hI4 : LkI h0 H4 a n c L N uv (List.replicate N 0) [] 0 0 := ⟨fun b o hb => K4 b o (app_of (hI.sub b o hb) _) (hne _ (by have := (List.getElem?_eq_some_iff.1 hb).1; omega)),
        K4 _ _ (app_of hI.dg _) (hne _ (by omega)), K4 _ _ (app_of hI.ar _) (hne _ (by omega)), K4 _ _ (app_of hI.mp _) (hne _ (by omega)), K4 _ _ (app_of hI.lk _) (hne _ (by omega))⟩
      have k3 := hI4.lk
      unfold AtB linkC at k3
      simp [g1, g3, g4, g21, g22, hi, rd_def, b3, happ, wrN_def, k3, hw, hmin, -List.length_append]
      refine ⟨kk - 1, by omega, i + 1, by omega, _, hI4.setL, ?_, by omega⟩
      have : OwnS H4 (h0.length + 4) (.slice (some ⟨b', 0, none⟩) (i + 1) (i + 1)) (i + 1) (intsC (idL (i + 1))) 3 1 := by rw [idL_succ]; simpa [intsC] using hown
      refine this.keep fun b s' e1 e2 => set_ne e2 ?_
      simp at e1
      have := (hown.at_).1
      omega
    · have hin : i = N := by omega
      subst hin
      have b0 := hI.dg
      unfold AtB at b0
      obtain ⟨ub, su, hub⟩ : ∃ ub su, 0 < i → uv = .slice (some ⟨ub, 0, none⟩) i i ∧ h0.length + 4 ≤ ub ∧ h[ub]? = some (.cells (intsC (idL i)) 3 (some su)) := by
        rcases hu.2 with ⟨_, h1⟩ | ⟨b, s', h1, h2, h3, _⟩
        · exact ⟨0, 0, fun h => by omega⟩
        · exact ⟨b, s', fun _ => ⟨h1, h2, h3⟩⟩
      simp [g1, g3, g4, g21, g22, rd_def, b0]
      refine DW_loop (fun kk fr st => ∃ (j : Nat) (h : List O) (up : List Int), j + kk = n ∧ st = ⟨h, h0.length⟩ ∧ LkI h0 h a n c L i uv (List.replicate i 0) ((lE G.X s j).map (entG kcII)) (2 * j) 0 ∧
        (0 < i → AtB h ub (.cells (intsC up) 3 (some su)) ∧ UF (archR G.X j) i up) ∧
        get fr 1 = .pointer (some ⟨h0.length, 0, none⟩) ∧ get fr 3 = .int .i64 i ∧ get fr 4 = .pointer (some ⟨h0.length + 3, 0, none⟩) ∧ get fr 39 = .slice a n c ∧ get fr 40 = .int .i64 n ∧ get fr 41 = .int .i64 j) ?_ (k := n) ?_
      · clear g1 g3 g4 g21 g22 b0 b3 hl3 hi hu hik hI
        rintro kk fr st ⟨j, h, up, hjk, rfl, hI, hU, g1, g3, g4, g39, g40, g41⟩
        by_cases hj : j < n
        · have hw : IntKind.i64.wrap ((j : Int) + 1) = (j : Int) + 1 := by rw [w64_id] <;> omega
          obtain ⟨hub1, hub2, _⟩ := hub (by omega)
          obtain ⟨hU1, hU2⟩ := hU (by omega)
          unfold AtB at hU1
          obtain ⟨xb, xo, hxa, hxr⟩ := hx
          obtain rfl := hxa (by omega)
          have hcr : rdN h xb (xo + j * 5) 5 = some (crossC (x j) (s j)) := hI.sub.rdN (hxr j hj)
          rw [rdN_def] at hcr
          simp only [crossC] at hcr
          rw [hX j 0 hj (by omega), hX j 1 hj (by omega), hX j 2 hj (by omega), hX j 3 hj (by omega)] at hcr
          obtain ⟨H, hH⟩ : ∃ H, H = h ++ [O.cells [.int .i64 (G.X j 0), .int .i64 (G.X j 1), .int .i64 (G.X j 2), .int .i64 (G.X j 3), .int .i64 (s j)] 107 (some 0)] := ⟨_, rfl⟩
          have hpc : H[h.length]? = some (O.cells [.int .i64 (G.X j 0), .int .i64 (G.X j 1), .int .i64 (G.X j 2), .int .i64 (G.X j 3), .int .i64 (s j)] 107 (some 0)) := by rw [hH, app_at0]; rfl
          have hlH : H.length = h.length + 1 := by rw [hH]; simp
          have hIH := hI.app [O.cells [.int .i64 (G.X j 0), .int .i64 (G.X j 1), .int .i64 (G.X j 2), .int .i64 (G.X j 3), .int .i64 (s j)] 107 (some 0)]
          rw [← hH] at hIH
          have hUH : H[ub]? = some (.cells (intsC up) 3 (some su)) := by rw [hH]; exact app_of hU1 _
          have hubl := (List.getElem?_eq_some_iff.1 hU1).1
          have k3 := hIH.lk
          unfold AtB linkC at k3
          have hjn := joinW_ hE (h := H) (pl := h0.length + 3) (by rw [rd_def, k3, hub1]; rfl) hUH hU2 (hXlt j 1 hj (by omega)) (hXlt j 3 hj (by omega))
          obtain ⟨up', hup'⟩ : ∃ up', up' = up.set (max (archR G.X j (G.X j 1)) (archR G.X j (G.X j 3))) ((min (archR G.X j (G.X j 1)) (archR G.X j (G.X j 3)) : Nat) : Int) := ⟨_, rfl⟩
          have hU2' := hU2.join (hXlt j 1 hj (by omega)) (hXlt j 3 hj (by omega))
          rw [← hup'] at hjn hU2'
          obtain ⟨H2, hH2⟩ : ∃ H2, H2 = H.set ub (.cells (intsC up') 3 (some su)) := ⟨_, rfl⟩
          rw [← hH2] at hjn
          have hl2 : H2.length = h.length + 1 := by rw [hH2, List.length_set, hlH]
          have hI2 := hIH.set hub2 (.cells (intsC up') 3 (some su))
          rw [← hH2] at hI2
          have hjd : joined ⟨H, h0.length⟩ ⟨H2, ub⟩ = ⟨H2, h0.length⟩ := by simp [joined, hlH]; omega
          have hpc2 : H2[h.length]? = some (O.cells [.int .i64 (G.X j 0), .int .i64 (G.X j 1), .int .i64 (G.X j 2), .int .i64 (G.X j 3), .int .i64 (s j)] 107 (some 0)) := by rw [hH2]; exact set_ne hpc (by omega)
          have hm2 := hI2.mp
          unfold AtB at hm2
          have k32 := hI2.lk
          unfold AtB linkC at k32
          have hfr1 : ∀ y ∈ lE G.X s j, (j, 0) ≠ y.1 := fun y hy e => by have := lE_lt y hy; rw [← e] at this; simp at this
          obtain ⟨H3, hH3⟩ : ∃ H3, H3 = H2.set (h0.length + 2) (.map ((lE G.X s j ++ [((j, 0), Value.int .i64 (G.X j 0), 2 * j)]).map (entG kcII)) (2 * j + 1)) := ⟨_, rfl⟩
          have hup1 : updS [some .i64, some .i64] true ⟨H2, h0.length⟩ (.map (some (h0.length + 2))) (.agg #[.int .i64 j, .int .i64 0]) (.int .i64 (G.X j 0)) = some (.val undef, ⟨H3, h0.length⟩) := by
            have := updS_fresh keyII (f := h0.length) hm2 hfr1 (.int .i64 (G.X j 0))
            rw [show min h0.length (h0.length + 2) = h0.length by omega, ← hH3] at this
            exact this
          have hI3 : LkI h0 H3 (some ⟨xb, xo, none⟩) n c L i uv (List.replicate i 0) ((lE G.X s j ++ [((j, 0), Value.int .i64 (G.X j 0), 2 * j)]).map (entG kcII)) (2 * j + 1) 0 := by rw [hH3]; exact hI2.setM
          have hpc3 : H3[h.length]? = some (O.cells [.int .i64 (G.X j 0), .int .i64 (G.X j 1), .int .i64 (G.X j 2), .int .i64 (G.X j 3), .int .i64 (s j)] 107 (some 0)) := by
            rw [hH3]; exact set_ne hpc2 (by have := hI.lk; unfold AtB at this; have := (List.getElem?_eq_some_iff.1 this).1; omega)
          have hm3 := hI3.mp
          unfold AtB at hm3
          have k33 := hI3.lk
          unfold AtB linkC at k33
          have hq : inP (s j) = 1 ∨ inP (s j) = 3 := by unfold inP; split <;> simp
          have hfr2 : ∀ y ∈ lE G.X s j ++ [((j, 0), Value.int .i64 (G.X j 0), 2 * j)], (j, inP (s j)) ≠ y.1 := fun y hy e => by
            rcases List.mem_append.1 hy with hy | hy
            · have := lE_lt y hy; rw [← e] at this; simp at this
            · simp at hy; rw [hy] at e; simp at e; omega
          obtain ⟨H4, hH4⟩ : ∃ H4, H4 = H3.set (h0.length + 2) (.map ((lE G.X s (j + 1)).map (entG kcII)) (2 * (j + 1))) := ⟨_, rfl⟩
          have hup2 : updS [some .i64, some .i64] true ⟨H3, h0.length⟩ (.map (some (h0.length + 2))) (.agg #[.int .i64 j, .int .i64 (inP (s j) : Nat)]) (.int .i64 (G.X j (inP (s j)))) = some (.val undef, ⟨H4, h0.length⟩) := by
            have := updS_fresh keyII (f := h0.length) hm3 hfr2 (.int .i64 (G.X j (inP (s j))))
            rw [show min h0.length (h0.length + 2) = h0.length by omega] at this
            rw [hH4]
            exact this
          have hb2 : ¬ ub < h0.length := by omega
          have hsl : h0.length + 3 < h.length := by have := hI.lk; unfold AtB at this; exact (List.getElem?_eq_some_iff.1 this).1
          have hmin2 : min h0.length h.length = h0.length := by omega
          have hI4 : LkI h0 H4 (some ⟨xb, xo, none⟩) n c L i uv (List.replicate i 0) ((lE G.X s (j + 1)).map (entG kcII)) (2 * (j + 1)) 0 := by rw [hH4]; exact hI3.setM
          have hU4 : AtB H4 ub (.cells (intsC up') 3 (some su)) := by
            unfold AtB
            rw [hH4, hH3, hH2]
            exact set_ne (set_ne (set_self hUH) (by omega)) (by omega)
          rcases hS.sign j hj with hs1 | hs1
          all_goals
            simp only [hs1] at hH hpc hpc2 hpc3
            simp only [hs1, inP] at hup2
            simp at hup2
            simp [g1, g3, g4, g39, g40, g41, hj, rdN_def, rd_def, hcr, hmin2, wrN_at0, set_at0, hs1, ← hH, ← hlH, hpc, DC_of hjn, hjd, bit, hpc2, k32, step_updS, hup1, hpc3, k33, hup2, hw]
            exact ⟨kk - 1, by omega, j + 1, by omega, hI4, ⟨up', fun _ => ⟨hU4, hU2'⟩⟩, by omega⟩
        · have hjn : j = n := by omega
          subst hjn
          have hUr : 0 < i → AtB h ub (.cells (intsC up) 3 (some su)) ∧ UF (arR G) i up := by
            have : arR G = archR G.X j := by unfold arR; rw [hGn]
            rw [this]; exact hU
          simp [g1, g3, g4, g39, g40, g41]
          refine DW_loop (fun kk fr st => ∃ (m : Nat) (h : List O) (ar : List Int), m + kk = i ∧ st = ⟨h, h0.length⟩ ∧ LkI h0 h a j c L i uv ar ((lE G.X s j).map (entG kcII)) (2 * j) (cntR (arR G) m) ∧
            (0 < i → AtB h ub (.cells (intsC up) 3 (some su))) ∧ ar.length = i ∧ (∀ q, q < m → nth ar q = arN G q) ∧
            get fr 1 = .pointer (some ⟨h0.length, 0, none⟩) ∧ get fr 4 = .pointer (some ⟨h0.length + 3, 0, none⟩) ∧ get fr 80 = .int .i64 i ∧ get fr 81 = .int .i64 m) ?_ (k := i) ?_
          · clear g1 g3 g4 g39 g40 g41 hj hI hU hjk
            rintro kk fr st ⟨m, h, ar, hmk, rfl, hI, hua, hal, har, g1, g4, g80, g81⟩
            have k3 := hI.lk
            unfold AtB linkC at k3
            have hcl := cntP_le (fun b => arR G b = b) m
            have hcl' : cntR (arR G) m ≤ m := hcl
            by_cases hm : m < i
            · have hw : IntKind.i64.wrap ((m : Int) + 1) = (m : Int) + 1 := by rw [w64_id] <;> omega
              obtain ⟨hub1, hub2, _⟩ := hub (by omega)
              have hua1 := hua (by omega)
              unfold AtB at hua1
              have hrt := root_ hE (h := h) (pl := h0.length + 3) (by rw [rd_def, k3, hub1]; rfl) hua1 (hUr (by omega)).2 hm
              have hrm := (arR_rep G).le m
              have b1 := hI.ar
              unfold AtB at b1
              have hm1 : m + 1 ≤ i := by omega
              have hmin1 : min h0.length (h0.length + 1) = h0.length := by omega
              have hmin3 : min h0.length (h0.length + 3) = h0.length := by omega
              by_cases hr : arR G m = m
              · obtain ⟨H, hH⟩ : ∃ H, H = h.set (h0.length + 1) (.cells (intsC (ar.set m (cntR (arR G) m))) 3 (some 0)) := ⟨_, rfl⟩
                have hIH := hI.setA (ar' := ar.set m (cntR (arR G) m))
                rw [← hH] at hIH
                have k3' := hIH.lk
                unfold AtB linkC at k3'
                have hwc : IntKind.i64.wrap ((cntR (arR G) m : Int) + 1) = (cntR (arR G) m : Int) + 1 := by rw [w64_id] <;> omega
                simp [g1, g4, g80, g81, hm, DC_of hrt, hr, rd_def, k3, hw, bit, wrN_def, b1, hal, hm1, intsC_set, hmin1, ← hH, k3', hwc, hmin3]
                refine ⟨kk - 1, by omega, m + 1, by omega, ar.set m (cntR (arR G) m), ?_, fun _ => ?_, by simp [hal], fun q hq => ?_, by omega⟩
                · have := hIH.setL (uv' := uv) (cnt' := (cntR (arR G) (m + 1) : Int))
                  rw [cntR_succ, if_pos hr] at this ⊢
                  exact this
                · rw [hH]; exact set_ne (set_ne hua1 (by omega)) (by omega)
                · rw [nth_set (by omega)]
                  by_cases e : q = m
                  · rw [if_pos e, e]; unfold arN; rw [hr]
                  · rw [if_neg e]; exact har q (by omega)
              · have hlt : arR G m < m := by omega
                have hlt2 : arR G m < i := by omega
                have hlt3 : arR G m < ar.length := by omega
                have hv := har _ hlt
                have hne : ¬ ((arR G m : Nat) : Int) = m := by omega
                simp [g1, g4, g80, g81, hm, DC_of hrt, hr, rd_def, k3, hw, bit, wrN_def, b1, hal, hm1, intsC_set, hmin1, hlt2, intsC_get hlt3, hv, hne]
                refine ⟨kk - 1, by omega, m + 1, by omega, ar.set m (arN G (arR G m)), ?_, fun _ => ?_, by simp [hal], fun q hq => ?_, by omega⟩
                · have := hI.setA (ar' := ar.set m (arN G (arR G m)))
                  rw [cntR_succ, if_neg hr]
                  exact this
                · exact set_ne hua1 (by omega)
                · rw [nth_set (by omega)]
                  by_cases e : q = m
                  · rw [if_pos e, e]; unfold arN; rw [(arR_rep G).idem]
                  · rw [if_neg e]; exact har q (by omega)
            · have hmi : m = i := by omega
              subst hmi
              have b0 := hI.dg
              unfold AtB at b0
              have hmin3 : min h0.length (h0.length + 3) = h0.length := by omega
              have hwc : IntKind.i64.wrap ((cntR (arR G) m : Int) + L) = (cntR (arR G) m : Int) + L := by rw [w64_id] <;> omega
              obtain ⟨H, hH⟩ : ∃ H, H = h.set (h0.length + 3) (.cells (linkC uv a j c L (.slice (some ⟨h0.length + 1, 0, none⟩) m m) (cntR (arR G) m + L) (.slice none 0 0) 0 (.map (some (h0.length + 2)))) 170 (some 0)) := ⟨_, rfl⟩
              have hIH := hI.setL (uv' := uv) (cnt' := (cntR (arR G) m : Int) + L)
              rw [← hH] at hIH
              simp only [linkC] at hH
              have b0' := hIH.dg
              unfold AtB at b0'
              have hcp := componentsP_ hE (c := c) (hx.sub hIH.sub) hk
              simp only [dV] at hcp
              simp [g1, g4, g80, g81, rd_def, k3, b0, hwc, bit, wrN_def, hmin3, ← hH, rdN_def, b0']
              refine hcp.imp ?_
              rintro o ⟨h2, f2⟩ ⟨cb, k, xs, rfl, hcb, hf2, hs2, hxs, hO, hk2⟩
              simp only at hf2 hs2 hxs
              have k3' := hs2 _ _ hIH.lk
              unfold linkC at k3'
              have hl3 := (List.getElem?_eq_some_iff.1 k3').1
              simp [g4, joined_fl, hf2, wrN_def, k3', hmin3, List.getElem?_set_self hl3, endK_ret]
              unfold pairQ back
              rw [if_neg (by simp [Out.scalar, scalar, flat1, flat])]
              have hHl := hIH.lk
              unfold AtB at hHl
              have hH3 := (List.getElem?_eq_some_iff.1 hHl).1
              have hs02 : ∀ (b : Nat) (o : O), H[b]? = some o → b ≠ h0.length + 3 → (h2.set (h0.length + 3) (.cells [uv, .slice a j c, .int .i64 L, .slice (some ⟨h0.length + 1, 0, none⟩) m m, .int .i64 (cntR (arR G) m + L), .slice (some ⟨cb, 0, none⟩) (2 * j) (2 * j), .int .i64 (k + L), .map (some (h0.length + 2))] 170 (some 0)))[b]? = some o := fun b o hb hne => set_ne (hs2 b o hb) hne
              refine ⟨h0.length + 3, rfl, by omega, Nat.le_refl _, fun b o hb => ?_, k, xs, uv, a, c, h0.length + 1, cb, h0.length + 2, ?_, ?_, ?_, ?_, ?_, hO, hk2⟩
              · have := (List.getElem?_eq_some_iff.1 hb).1
                exact hs02 b o (hIH.sub b o hb) (by omega)
              · rw [← hGe, show arC G = cntR (arR G) m from by unfold arC; rw [hGn, hN], ← hN]
                exact set_self k3'
              · exact hx.sub fun b o hb => by
                  have := (List.getElem?_eq_some_iff.1 hb).1
                  exact hs02 b o (hIH.sub b o hb) (by omega)
              · have := hs02 _ _ hIH.ar (by omega)
                rw [← hGe, show arL G = ar from (eq_tabL (by rw [hGn]; omega) (fun q hq => by rw [har q (by rw [hGn] at hq; omega)])).symm]
                exact this
              · exact set_ne hxs (by omega)
              · rw [← hGe]; exact hs02 _ _ hIH.mp (by omega)
          · exact ⟨0, h, List.replicate i 0, by omega, rfl, hI, fun h0' => (hUr h0').1, by simp, fun q hq => by omega, by simp [g1, g4]⟩
      · refine ⟨0, h, idL i, by omega, rfl, hI, fun h0' => ⟨(hub h0').2.2, UF.start i⟩, by simp [g1, g3, g4]⟩
  · refine ⟨0, _, .slice none 0 0, by omega, rfl, ⟨(Sub.refl h0).app _, ?_, ?_, ?_, ?_⟩, OwnS.nil _ _ _ _, by simp⟩
    · unfold AtB; rw [app_at0]; rfl
    · unfold AtB; rw [app_at]; simp [rep, intsC]
    · unfold AtB; rw [app_at]; rfl
    · unfold AtB; rw [app_at]; rfl
end Go.Proofs.Ytjlkndkedknocaa
namespace Go.Ai
set_option linter.unusedSimpArgs false
set_option linter.unusedVariables false
theorem Ints.sub {h h' : List O} {v : Value} {xs : List Int} (hc : Ints h v xs) (e : ∀ (b : Nat) (o : O), h[b]? = some o → h'[b]? = some o) : Ints h' v xs := by
  obtain ⟨a, b, o, c, h1, h2, h3, h4⟩ := hc
  exact ⟨a, b, o, c, h1, h2, fun i hi => Sub.rd e (h3 i hi), h4⟩
theorem Mat.sub {h h' : List O} {v : Value} {A : List (List Int)} (hc : Mat h v A) (e : ∀ (b : Nat) (o : O), h[b]? = some o → h'[b]? = some o) : Mat h' v A := by
  obtain ⟨a, b, o, c, vs, h1, h2, h3, h4⟩ := hc
  exact ⟨a, b, o, c, vs, h1, h2, fun i hi => ⟨Sub.rd e (h3 i hi).1, (h3 i hi).2.sub e⟩, h4⟩
theorem orb_unique {N k k' : Nat} {f : Nat → Nat} {xs xs' : List Int} (h : OrbI N f N k xs) (h' : OrbI N f N k' xs') : xs = xs' ∧ k = k' := by
  obtain ⟨e1, e2⟩ := h.numb.unique h'.numb
  refine ⟨?_, e2⟩
  apply List.ext_getElem (by rw [h.len, h'.len])
  intro j h1 h2
  have hj : j < N := by rw [← h.len]; exact h1
  have e := e1 j hj
  have d1 := h.done j hj
  have d2 := h'.done j hj
  rw [← nth_eq h1, ← nth_eq h2]
  omega
end Go.Ai
namespace Go.Proofs.Ytjlkndkedknocaa
open Go Go.Ai
set_option linter.unusedSimpArgs false
set_option linter.unusedVariables false
attribute [local instance] Classical.propDecidable
noncomputable def cpX (G : Dg) : List Int × Nat := if h : ∃ p : List Int × Nat, OrbI (2 * G.n) (nx G) (2 * G.n) p.2 p.1 then h.choose else ([], 0)
noncomputable def cpL (G : Dg) : List Int := (cpX G).1
noncomputable def cpK (G : Dg) : Nat := (cpX G).2
theorem cp_eq {G : Dg} {k : Nat} {xs : List Int} (h : OrbI (2 * G.n) (nx G) (2 * G.n) k xs) : xs = cpL G ∧ k = cpK G := by
  have hx : ∃ p : List Int × Nat, OrbI (2 * G.n) (nx G) (2 * G.n) p.2 p.1 := ⟨(xs, k), h⟩
  have hs := hx.choose_spec
  have e : cpX G = hx.choose := dif_pos hx
  unfold cpL cpK
  rw [e]
  exact orb_unique h hs
noncomputable def fstA (G : Dg) (k : Int) : Int := firstI (fun j => decide (nth (cpL G) j = k)) (2 * G.n)
noncomputable def merD (G : Dg) (k : Int) : Int := if 0 ≤ fstA G k then arN G (fstA G k).toNat + 1 else arC G - cpK G + k + 1
theorem fstA_lt {G : Dg} {k : Int} : fstA G k < 2 * G.n ∧ -1 ≤ fstA G k := by
  unfold fstA
  rcases firstI_cases (fun j => decide (nth (cpL G) j = k)) (2 * G.n) with ⟨i, h1, _, _, h2⟩ | ⟨_, h2⟩ <;> omega
def LnkP (h : List O) (pl n : Nat) (x : Nat → Nat → Int) (s : Nat → Int) (L : Int) : Prop := LinkP h pl n x s L (cpK (dgOf n x s L)) (cpL (dgOf n x s L))
theorem LinkP.canon {h : List O} {pl n k : Nat} {x : Nat → Nat → Int} {s : Nat → Int} {L : Int} {xs : List Int} (hl : LinkP h pl n x s L k xs) : LnkP h pl n x s L := by
  have hl' := hl
  obtain ⟨uv, xa, xc, ab, cb, mb, h1, h2, h3, h4, h5, hO, hk⟩ := hl'
  obtain ⟨e1, e2⟩ := cp_eq (G := dgOf n x s L) hO
  unfold LnkP
  rw [← e1, ← e2]; exact hl
theorem LnkP.sub {h h' : List O} {pl n : Nat} {x : Nat → Nat → Int} {s : Nat → Int} {L : Int} (hl : LnkP h pl n x s L) (e : Sub h h') : LnkP h' pl n x s L := LinkP.sub hl e
variable {E : Env} (hE : OE E)
include hE
theorem newLinkC_ {h0 : List O} {a : Option Addr} {n c : Nat} {x : Nat → Nat → Int} {s : Nat → Int} {L : Int} (hx : CrossP h0 a n x s) (hk : kindD n x s L = 0) :
    DC E 130 [dV a n c L] ⟨h0, h0.length⟩ fun o st' => ∃ pl : Nat, o = .ret (.pointer (some ⟨pl, 0, none⟩)) ∧ h0.length ≤ pl ∧ h0.length ≤ st'.fl ∧ Sub h0 st'.h ∧ LnkP st'.h pl n x s L :=
  (newLink_ hE hx hk).imp fun o st' ⟨pl, k, xs, h1, h2, h3, h4, h5⟩ => ⟨pl, h1, h2, h3, h4, h5.canon⟩
theorem generator_ {h : List O} {pl n : Nat} {x : Nat → Nat → Int} {s : Nat → Int} {L : Int} (hl : LnkP h pl n x s L) (hn : n ≤ 200) {i : Nat} (hi : i < 2 * n) :
    DR E 149 [.pointer (some ⟨pl, 0, none⟩), .int .i64 i] ⟨h, h.length⟩ (.ret (.int .i64 (arN (dgOf n x s L) i + 1))) ⟨h, h.length⟩ := by
  refine hE.fn (body := rb149) rfl ?_
  unfold rb149
  obtain ⟨uv, xa, xc, ab, cb, mb, h1, h2, h3, h4, h5, hO, hk⟩ := hl
  unfold linkC at h1
  have hi' : (i : Int) < 2 * n := by omega
  have hG : (dgOf n x s L).n = n := rfl
  have hlen : i < (arL (dgOf n x s L)).length := by unfold arL; rw [tabL_length, hG]; exact hi
  have hv : nth (arL (dgOf n x s L)) i = arN (dgOf n x s L) i := tabL_nth (by rw [hG]; exact hi)
  have hlt := arN_lt (G := dgOf n x s L) (a := i) (by rw [hG]; exact hi)
  have hle := arC_le (dgOf n x s L)
  rw [hG] at hle
  have hw : IntKind.i64.wrap ((arN (dgOf n x s L) i : Int) + 1) = (arN (dgOf n x s L) i : Int) + 1 := by rw [w64_id] <;> omega
  simp [rd_def, h1, hi, hi', h3, intsC_get hlen, hv, hw]
theorem indexI_ {h : List O} {b n c : Nat} {xs : List Int} {v : Int} {el : TypeId} {own : Option Nat} (hb : h[b]? = some (.cells (intsC xs) el own)) (hn : xs.length = n) (hlt : n < 1000000) :
    DR E 211 [.slice (some ⟨b, 0, none⟩) n c, .int .i64 v] ⟨h, h.length⟩ (.ret (.int .i64 (firstI (fun j => decide (nth xs j = v)) n))) ⟨h, h.length⟩ := by
  refine hE.fn (body := rb211) rfl ?_
  unfold rb211
  simp
  refine DW_loop (fun kk fr st => ∃ (i : Nat), i + kk = n ∧ st = ⟨h, h.length⟩ ∧ (∀ j, j < i → nth xs j ≠ v) ∧ get fr 0 = .slice (some ⟨b, 0, none⟩) n c ∧ get fr 1 = .int .i64 v ∧ get fr 7 = .int .i64 n ∧ get fr 8 = .int .i64 i) ?_ (k := n) ?_
  · rintro kk fr st ⟨i, hik, rfl, hm, g0, g1, g7, g8⟩
    by_cases hi : i < n
    · have hw : IntKind.i64.wrap ((i : Int) + 1) = (i : Int) + 1 := by rw [w64_id] <;> omega
      have hi2 : i < xs.length := by omega
      by_cases hv : nth xs i = v
      · have hv' : v = nth xs i := hv.symm
        have hf : firstI (fun j => decide (nth xs j = v)) n = i := firstI_found hi (by simp [hv]) (fun j hj => by simp [hm j hj])
        simp [g0, g1, g7, g8, hi, rd_def, hb, intsC_get hi2, hv', endK_ret]
        rw [hv'] at hf
        exact hf.symm
      · have hv' : ¬ v = nth xs i := fun e => hv e.symm
        simp [g0, g1, g7, g8, hi, rd_def, hb, intsC_get hi2, hv', hw]
        refine ⟨kk - 1, by omega, i + 1, by omega, fun j hj => ?_, by omega⟩
        by_cases e : j = i
        · rw [e]; exact hv
        · exact hm j (by omega)
    · have hin : i = n := by omega
      subst hin
      have hf : firstI (fun j => decide (nth xs j = v)) i = -1 := firstI_none (fun j hj => by simp [hm j hj])
      simp [g0, g1, g7, g8, endK_ret, hf]
  · exact ⟨0, by omega, rfl, fun j h => by omega, by simp⟩
theorem first_ {h : List O} {pl n : Nat} {x : Nat → Nat → Int} {s : Nat → Int} {L : Int} (hl : LnkP h pl n x s L) (hn : n ≤ 200) (hL : 0 ≤ L ∧ L ≤ 200) {k : Int} (hk : 0 ≤ k ∧ k < cpK (dgOf n x s L) + L) :
    DR E 147 [.pointer (some ⟨pl, 0, none⟩), .int .i64 k] ⟨h, h.length⟩ (.ret (.tuple #[.int .i64 (fstA (dgOf n x s L) k), .int .i64 (merD (dgOf n x s L) k)])) ⟨h, h.length⟩ := by
  refine hE.fn (body := rb147) rfl ?_
  unfold rb147
  have hl' := hl
  obtain ⟨uv, xa, xc, ab, cb, mb, h1, h2, h3, h4, h5, hO, hk'⟩ := hl'
  unfold linkC at h1
  have hG : (dgOf n x s L).n = n := rfl
  have hi := indexI_ hE (v := k) (n := 2 * n) (c := 2 * n) h4 hO.len (by omega)
  obtain ⟨f, hf⟩ : ∃ f, f = firstI (fun j => decide (nth (cpL (dgOf n x s L)) j = k)) (2 * n) := ⟨_, rfl⟩
  have hfA : fstA (dgOf n x s L) k = f := by rw [hf]; rfl
  rw [← hf] at hi
  have hfl := fstA_lt (G := dgOf n x s L) (k := k)
  rw [hfA, hG] at hfl
  have hle := arC_le (dgOf n x s L)
  rw [hG] at hle
  unfold merD
  rw [hfA]
  by_cases h0 : 0 ≤ f
  · obtain ⟨i, rfl⟩ : ∃ i : Nat, f = i := ⟨f.toNat, by omega⟩
    have hg := generator_ hE hl hn (i := i) (by omega)
    simp [rd_def, h1, DC_of hi, DC_of hg, endK_ret, back_scalar, Out.scalar, scalar, flat1, flat]
  · have hf1 : f = -1 := by omega
    have hw1 : IntKind.i64.wrap ((arC (dgOf n x s L) : Int) + L - (cpK (dgOf n x s L) + L)) = (arC (dgOf n x s L) : Int) - cpK (dgOf n x s L) := by rw [w64_id] <;> omega
    have hw2 : IntKind.i64.wrap ((arC (dgOf n x s L) : Int) - cpK (dgOf n x s L) + k) = (arC (dgOf n x s L) : Int) - cpK (dgOf n x s L) + k := by rw [w64_id] <;> omega
    have hw3 : IntKind.i64.wrap ((arC (dgOf n x s L) : Int) - cpK (dgOf n x s L) + k + 1) = (arC (dgOf n x s L) : Int) - cpK (dgOf n x s L) + k + 1 := by rw [w64_id] <;> omega
    subst hf1
    simp [rd_def, h1, DC_of hi, endK_ret, hw1, hw2, hw3, back_scalar, Out.scalar, scalar, flat1, flat]
theorem arches_ {h0 : List O} {a : Option Addr} {n c : Nat} {x : Nat → Nat → Int} {s : Nat → Int} {L : Int} (hx : CrossP h0 a n x s) :
    DC E 75 [dV a n c L] ⟨h0, h0.length⟩ fun o st' => (kindD n x s L ≠ 0 ∧ o = .ret (.tuple #[.slice none 0 0, .int .i64 0, .int .i64 (kindD n x s L)]) ∧ st' = ⟨h0, h0.length⟩) ∨
      (kindD n x s L = 0 ∧ ∃ b, o = .ret (.tuple #[.slice (some ⟨b, 0, none⟩) (2 * n) (2 * n), .int .i64 (arC (dgOf n x s L) + L), .int .i64 0]) ∧ Sub h0 st'.h ∧ h0.length ≤ st'.fl ∧ st'.h[b]? = some (.cells (intsC (arL (dgOf n x s L))) 3 (some 0))) := by
  refine hE.fnC (body := rb75) rfl ?_
  unfold rb75
  have hx1 : CrossP (h0 ++ [O.cells [.slice a n c, .int .i64 L] 24 (some 0)]) a n x s := hx.ext (Ext.snoc _ _)
  have h1 := check_ hE (c := c) (L := L) hx1
  simp [dV] at h1
  by_cases hk : kindD n x s L = 0
  · have h2 := newLinkC_ hE (c := c) hx1 hk
    simp [dV] at h2
    simp [dV, rdN_at0, joined_fl, DC_of h1, hk]
    refine h2.imp ?_
    rintro o ⟨h3, f3⟩ ⟨pl, rfl, hp, hf, hs, hl⟩
    simp only at hf hs hl
    obtain ⟨uv, xa, xc, ab, cb, mb, k1, k2, k3, k4, k5, hO, hk'⟩ := hl
    unfold linkC at k1
    have hs0 : Sub h0 h3 := ((Sub.refl h0).app _).trans hs
    simp [joined_fl, hf, rd_def, k1, bit, endK_ret]
    unfold pairQ back
    rw [if_neg (by simp [Out.scalar, scalar, flat1, flat])]
    exact ⟨ab, rfl, hs0, Nat.le_refl _, k3⟩
  · simp [dV, rdN_at0, joined_fl, DC_of h1, hk, endK_ret, back_scalar, Out.scalar, scalar, flat1, flat]
theorem meridian_ {h0 : List O} {a : Option Addr} {n c : Nat} {x : Nat → Nat → Int} {s : Nat → Int} {L : Int} (hx : CrossP h0 a n x s) (k : Int) :
    DR E 69 [dV a n c L, .int .i64 k] ⟨h0, h0.length⟩ (.ret (if kindD n x s L ≠ 0 then .tuple #[.int .i64 0, .int .i64 (kindD n x s L)] else if 0 ≤ k ∧ k < cpK (dgOf n x s L) + L then .tuple #[.int .i64 (merD (dgOf n x s L) k), .int .i64 0] else .tuple #[.int .i64 0, .int .i64 1])) ⟨h0, h0.length⟩ := by
  refine hE.fn (body := rb69) rfl ?_
  unfold rb69
  have hx1 : CrossP (h0 ++ [O.cells [.slice a n c, .int .i64 L] 24 (some 0)]) a n x s := hx.ext (Ext.snoc _ _)
  have h1 := check_ hE (c := c) (L := L) hx1
  simp [dV] at h1
  by_cases hk : kindD n x s L = 0
  · have h2 := newLinkC_ hE (c := c) hx1 hk
    simp [dV] at h2
    have hS := (kind_zero hk).1
    simp [dV, rdN_at0, joined_fl, DC_of h1, hk]
    refine h2.imp ?_
    rintro o ⟨h3, f3⟩ ⟨pl, rfl, hp, hf, hs, hl⟩
    simp only at hf hs hl
    have hl' := hl
    obtain ⟨uv, xa, xc, ab, cb, mb, k1, k2, k3, k4, k5, hO, hk'⟩ := hl'
    unfold linkC at k1
    have hlen := hs.len
    simp at hlen
    by_cases c1 : 0 ≤ k
    · have c1' : ¬ k < 0 := by omega
      by_cases c2 : k < cpK (dgOf n x s L) + L
      · have c2' : ¬ (cpK (dgOf n x s L) : Int) + L ≤ k := by omega
        have hfi := first_ hE hl hS.size hS.loops ⟨c1, c2⟩
        simp [joined_fl, hf, rd_def, k1, bit, endK_ret, c1, c1', c2, c2', DC_of hfi, back_scalar, Out.scalar, scalar, flat1, flat]
      · have c2' : (cpK (dgOf n x s L) : Int) + L ≤ k := by omega
        simp [joined_fl, hf, rd_def, k1, bit, endK_ret, c1, c1', c2, c2', back_scalar, Out.scalar, scalar, flat1, flat]
    · have c1' : k < 0 := by omega
      simp [joined_fl, hf, rd_def, k1, bit, endK_ret, c1, c1', back_scalar, Out.scalar, scalar, flat1, flat]
  · simp [dV, rdN_at0, joined_fl, DC_of h1, hk, endK_ret, back_scalar, Out.scalar, scalar, flat1, flat]
end Go.Proofs.Ytjlkndkedknocaa
namespace Go.Ai
set_option linter.unusedSimpArgs false
set_option linter.unusedVariables false
theorem pw_eq {α : Type} {f : α → Nat} : ∀ {l : List α}, l.Pairwise (fun x y => f x ≠ f y) → ∀ {x y : α}, x ∈ l → y ∈ l → f x = f y → x = y
  | [], _, x, _, h, _, _ => by simp at h
  | z :: l, hp, x, y, hx, hy, e => by
    rw [List.pairwise_cons] at hp
    rcases List.mem_cons.1 hx with hx | hx
    · rcases List.mem_cons.1 hy with hy | hy
      · rw [hx, hy]
      · rw [hx] at e; exact absurd e (hp.1 y hy)
    · rcases List.mem_cons.1 hy with hy | hy
      · rw [hy] at e; exact absurd e.symm (hp.1 x hx)
      · exact pw_eq hp.2 hx hy e
theorem nodup_le : ∀ {s l : List Nat}, s.Nodup → (∀ b ∈ s, b ∈ l) → s.length ≤ l.length
  | [], l, _, _ => by simp
  | x :: s, l, h1, h2 => by
    rw [List.nodup_cons] at h1
    have hx := h2 x (by simp)
    have h3 := nodup_le (s := s) (l := l.erase x) h1.2 fun b hb => (List.mem_erase_of_ne (fun e => by rw [e] at hb; exact h1.1 hb)).2 (h2 b (by simp [hb]))
    rw [List.length_erase_of_mem hx] at h3
    have := List.length_pos_of_mem hx
    simp; omega
end Go.Ai
namespace Go.Proofs.Ytjlkndkedknocaa
open Go Go.Ai
set_option linter.unusedSimpArgs false
set_option linter.unusedVariables false
attribute [local instance] Classical.propDecidable
theorem lE_born {X : Nat → Nat → Nat} {s : Nat → Int} : ∀ {c : Nat}, ∀ y ∈ lE X s c, y.2.2 < 2 * c := by
  intro c
  induction c with
  | zero => intro y h; simp [lE] at h
  | succ c ih =>
    intro y h
    simp only [lE, List.mem_append, List.mem_singleton] at h
    rcases h with (h | rfl) | rfl
    · have := ih y h; omega
    · simp only; omega
    · simp only; omega
theorem lE_pw (X : Nat → Nat → Nat) (s : Nat → Int) : ∀ c, (lE X s c).Pairwise fun x y => x.2.2 ≠ y.2.2 := by
  intro c
  induction c with
  | zero => exact List.Pairwise.nil
  | succ c ih =>
    simp only [lE]
    rw [List.pairwise_append, List.pairwise_append]
    refine ⟨⟨ih, List.pairwise_singleton _ _, fun x hx y hy => ?_⟩, List.pairwise_singleton _ _, fun x hx y hy => ?_⟩
    · simp at hy
      rw [hy]
      have := lE_born x hx
      simp only; omega
    · simp at hy
      rw [hy]
      rcases List.mem_append.1 hx with hx | hx
      · have := lE_born x hx
        simp only; omega
      · simp at hx
        rw [hx]; simp
theorem lE_length (X : Nat → Nat → Nat) (s : Nat → Int) : ∀ c, (lE X s c).length = 2 * c := by
  intro c
  induction c with
  | zero => rfl
  | succ c ih => simp [lE, ih]; omega
theorem lE_is {X : Nat → Nat → Nat} {s : Nat → Int} : ∀ {n : Nat}, ∀ y ∈ lE X s n, ∃ c p, c < n ∧ (p = 0 ∨ p = inP (s c)) ∧ y.1 = (c, p) ∧ y.2.1 = .int .i64 (X c p) := by
  intro n
  induction n with
  | zero => intro y h; simp [lE] at h
  | succ n ih =>
    intro y h
    simp only [lE, List.mem_append, List.mem_singleton] at h
    rcases h with (h | rfl) | rfl
    · obtain ⟨c, p, h1, h2⟩ := ih y h
      exact ⟨c, p, by omega, h2⟩
    · exact ⟨n, 0, by omega, .inl rfl, rfl, rfl⟩
    · exact ⟨n, _, by omega, .inr rfl, rfl, rfl⟩
theorem lE_has {X : Nat → Nat → Nat} {s : Nat → Int} : ∀ {n c p : Nat}, c < n → (p = 0 ∨ p = inP (s c)) → ∃ b, ((c, p), Value.int .i64 (X c p), b) ∈ lE X s n := by
  intro n
  induction n with
  | zero => intro c p h; omega
  | succ n ih =>
    intro c p hc hp
    simp only [lE, List.mem_append, List.mem_singleton]
    by_cases e : c < n
    · obtain ⟨b, hb⟩ := ih e hp
      exact ⟨b, .inl (.inl hb)⟩
    · obtain rfl : c = n := by omega
      rcases hp with rfl | rfl
      · exact ⟨_, .inl (.inr rfl)⟩
      · exact ⟨_, .inr rfl⟩
def finT (G : Dg) (a : Nat) : Nat × Nat := (G.T a 2, G.T a 3)
def finL (G : Dg) : List (Nat × Nat) := (List.range (2 * G.n)).map (finT G)
theorem in_place {s : Int} (hs : s = 1 ∨ s = -1) {p : Nat} : ((p = 0 ∨ p = inP s) ↔ p < 4 ∧ outB s p = false) := by
  rcases hs with rfl | rfl
  · constructor
    · rintro (rfl | rfl)
      · exact ⟨by omega, rfl⟩
      · exact ⟨by decide, rfl⟩
    · rintro ⟨h1, h2⟩
      match p, h1 with
      | 0, _ => exact .inl rfl
      | 1, _ => simp [outB] at h2
      | 2, _ => simp [outB] at h2
      | 3, _ => exact .inr rfl
  · constructor
    · rintro (rfl | rfl)
      · exact ⟨by omega, rfl⟩
      · exact ⟨by decide, rfl⟩
    · rintro ⟨h1, h2⟩
      match p, h1 with
      | 0, _ => exact .inl rfl
      | 1, _ => exact .inr rfl
      | 2, _ => simp [outB] at h2
      | 3, _ => simp [outB] at h2
theorem fin_of {G : Dg} (hG : GoodG G) {c p : Nat} (hc : c < G.n) (hp : p < 4) (ho : outB (G.s c) p = false) : finT G (G.X c p) = (c, p) := by
  have ha := hG.X c p hc hp
  rcases hG.cover c p hc hp with ⟨h1, h2⟩ | ⟨h1, h2⟩
  · have := (hG.dir _ ha).1
    rw [← h1, ← h2, ho] at this
    cases this
  · unfold finT; rw [← h1, ← h2]
theorem cellsL_len (l : List (Nat × Nat)) : (cellsL l).length = l.length * 2 := by
  induction l with
  | nil => rfl
  | cons y l ih => show (cells2 y ++ cellsL l).length = _; rw [List.length_append, ih]; simp [cells2]; omega
theorem cellsL_set {e : List (Nat × Nat)} {a : Nat} {x : Nat × Nat} (ha : a < e.length) : setL (cellsL e) (a * 2) (cells2 x) = cellsL (e.set a x) := by
  induction e generalizing a with
  | nil => simp at ha
  | cons y l ih =>
    cases a with
    | zero => simp [cellsL, cells2]
    | succ a =>
      have h := ih (a := a) (by simpa using ha)
      have e1 : cellsL (y :: l) = cells2 y ++ cellsL l := rfl
      have e2 : cellsL ((y :: l).set (a + 1) x) = cells2 y ++ cellsL (l.set a x) := rfl
      rw [e1, e2, ← h]
      simp [cells2, show (a + 1) * 2 = a * 2 + 2 by omega]
def walkM (h0 : List O) (pl : Nat) (i : Int) (G : Dg) : List O :=
  (h0 ++ [.cells [.pointer (some ⟨pl, 0, none⟩)] 155 (some 0), .cells [.int .i64 i] 3 (some 0), .cells (cellsL (finL G)) 72 (some 0), .cells [.slice (some ⟨h0.length + 2, 0, none⟩) (2 * G.n) (2 * G.n)] 215 (some 0)]) ++ List.replicate (1 + 2 * G.n) .dead
def walkV (h0 : List O) : Value := .func (.func 212) #[] #[.pointer (some ⟨h0.length + 1, 0, none⟩), .pointer (some ⟨h0.length + 3, 0, none⟩), .pointer (some ⟨h0.length, 0, none⟩)]
structure WkI (h0 : List O) (pl : Nat) (i : Int) (N mb : Nat) (es : List MapEntry) (fin : Nat → Nat × Nat) (seen : List Nat) (H : List O) (e : List (Nat × Nat)) : Prop where
  sub : Sub h0 H
  b0 : AtB H h0.length (.cells [.pointer (some ⟨pl, 0, none⟩)] 155 (some 0))
  b1 : AtB H (h0.length + 1) (.cells [.int .i64 i] 3 (some 0))
  b2 : AtB H (h0.length + 2) (.cells (cellsL e) 72 (some 0))
  b3 : AtB H (h0.length + 3) (.cells [.slice (some ⟨h0.length + 2, 0, none⟩) N N] 215 (some 0))
  b4 : AtB H (h0.length + 4) (.iter (some mb) N seen N)
  len : H.length = h0.length + 5 + seen.length
  own : ∀ b o, h0.length + 5 ≤ b → H[b]? = some o → o.ro = false
  el : e.length = N
  met : ∀ y ∈ es, y.born ∈ seen → ∀ a : Nat, y.val = .int .i64 a → e[a]? = some (fin a)
  nd : seen.Nodup
  mem : ∀ b ∈ seen, ∃ y ∈ es, y.born = b
variable {E : Env} (hE : OE E)
include hE
theorem walk_ (hW : E.S 148 = none) {h0 : List O} {pl n : Nat} {x : Nat → Nat → Int} {s : Nat → Int} {L : Int} (hl : LnkP h0 pl n x s L) (hS : Snd n x s L) (i : Int) :
    PC E 148 [.pointer (some ⟨pl, 0, none⟩), .int .i64 i] ⟨h0, h0.length⟩ fun o s' => o = .ret (walkV h0) ∧ WeakK 4 ⟨h0, h0.length⟩ s' ⟨walkM h0 pl i (dgOf n x s L), h0.length⟩ := by
  refine PC_fn (hE.F _ _ rfl) hW ?_
  obtain ⟨G, hGe⟩ : ∃ G, G = dgOf n x s L := ⟨_, rfl⟩
  have hG : GoodG G := by rw [hGe]; exact good_of hS
  have hGn : G.n = n := by rw [hGe]; rfl
  have hGs : G.s = s := by rw [hGe]; rfl
  have hsz := hS.size
  obtain ⟨uv, xa, xc, ab, cb, mb, k1, k2, k3, k4, k5, hO, hk'⟩ := hl
  rw [← hGe] at k1 k3 k5 ⊢
  unfold linkC at k1
  obtain ⟨N, hN⟩ : ∃ N, N = 2 * n := ⟨_, rfl⟩
  rw [← hN] at k1 k5
  have hpl := (List.getElem?_eq_some_iff.1 k1).1
  have hk1 : ∀ l, (h0 ++ l)[pl]? = _ := fun l => app_of k1 l
  have e1 : (N : Int) * 16 ≤ 140737488355328 := by omega
  have e2 : (N : Int) < 4611686018427387904 := by omega
  unfold rb148
  refine PW_seqD ?_
  simp
  refine PW_seqD ?_
  simp [rd_at0, rd_at, rd_def, hk1, e1, e2, wrN_at, set_at, List.append_assoc]
  refine PW_seq (PW_seqD ?_)
  obtain ⟨H, hH⟩ : ∃ H, H = h0 ++ [O.cells [.pointer (some ⟨pl, 0, none⟩)] 155 (some 0), .cells [.int .i64 i] 3 (some 0), .cells (rep N [.int .i64 0, .int .i64 0]) 72 (some 0), .cells [.slice (some ⟨h0.length + 2, 0, none⟩) N N] 215 (some 0)] := ⟨_, rfl⟩
  have hlH : H.length = h0.length + 4 := by rw [hH]; simp
  rw [← hH]
  have hb0 : H[h0.length]? = some (.cells [.pointer (some ⟨pl, 0, none⟩)] 155 (some 0)) := by rw [hH, app_at0]; rfl
  have hm0 : H[mb]? = some (.map ((lE G.X s n).map (entG kcII)) N) := by rw [hH]; exact app_of k5 _
  have hp0 : H[pl]? = h0[pl]? := by rw [hH]; exact List.getElem?_append_left hpl
  rw [k1] at hp0
  have eI := rangeVS_ent (f := h0.length) hm0
  simp [rd_def, hb0, hp0, eI]
  have hGN : 2 * G.n = N := by rw [hGn, hN]
  have hpw : ((lE G.X s n).map (entG kcII)).Pairwise fun x y => x.born ≠ y.born := by
    rw [List.pairwise_map]; exact lE_pw _ _ _
  have hallk : ((lE G.X s n).map (entG kcII)).all (fun e => plain1 e.key) = true := by
    rw [List.all_map, List.all_eq_true]; intro y _; rfl
  have hmbl := (List.getElem?_eq_some_iff.1 k5).1
  refine PW_walkE (es := (lE G.X s n).map (entG kcII)) (bm := mb) (r := h0.length + 4) (clock := N) (seen := []) hpw hallk (fun seen fr H => (∃ e, WkI h0 pl i N mb ((lE G.X s n).map (entG kcII)) (finT G) seen H e) ∧ get fr 2 = .pointer (some ⟨h0.length, 0, none⟩) ∧ get fr 3 = .pointer (some ⟨h0.length + 1, 0, none⟩) ∧ get fr 5 = .pointer (some ⟨h0.length + 3, 0, none⟩) ∧ get fr 18 = .pointer (some ⟨h0.length + 4, 0, none⟩)) (by decide) (by omega) ?_ ?_ ?_ ?_
  · rintro seen fr H ⟨⟨e, hI⟩, g2, g3, g5, g18⟩
    exact ⟨g18, hI.b4, hI.sub _ _ k5⟩
  · rintro seen fr H y ⟨⟨e, hI⟩, g2, g3, g5, g18⟩ hy hys
    obtain ⟨z, hz, rfl⟩ := List.mem_map.1 hy
    obtain ⟨c, p, hc, hp, hz1, hz2⟩ := lE_is z hz
    have hq := (in_place (hS.sign c hc)).1 hp
    have hX := hG.X c p (by rw [hGn]; exact hc) hq.1
    have hfin := fin_of hG (by rw [hGn]; exact hc) hq.1 (by rw [hGs]; exact hq.2)
    have hXN : G.X c p < N := by rw [← hGN]; exact hX
    have b2 := hI.b2
    have b3 := hI.b3
    have b4 := hI.b4
    unfold AtB at b2 b3 b4
    have hHl := hI.len
    obtain ⟨H2, hH2⟩ : ∃ H2, H2 = H.set (h0.length + 4) (.iter (some mb) N (seen ++ [z.2.2]) N) := ⟨_, rfl⟩
    have hl2 : H2.length = H.length := by rw [hH2]; exact List.length_set
    have c2 : H2[h0.length + 2]? = some (.cells (cellsL e) 72 (some 0)) := by rw [hH2]; exact set_ne b2 (by omega)
    have c3 : H2[h0.length + 3]? = some (.cells [.slice (some ⟨h0.length + 2, 0, none⟩) N N] 215 (some 0)) := by rw [hH2]; exact set_ne b3 (by omega)
    have c4 : H2[h0.length + 4]? = some (.iter (some mb) N (seen ++ [z.2.2]) N) := by rw [hH2]; exact set_self b4
    have cm : H2[mb]? = some (.map ((lE G.X s n).map (entG kcII)) N) := by rw [hH2]; exact set_ne (hI.sub _ _ k5) (by omega)
    have eE := entryVS_E (f := h0.length) (x := entG kcII z) c4 cm (by simp [entG]) hpw hallk (List.mem_map.2 ⟨z, hz, rfl⟩)
    have ek : (entG kcII z).key = .agg #[.int .i64 c, .int .i64 p] := by unfold entG; rw [hz1]; rfl
    have ev : (entG kcII z).val = .int .i64 (G.X c p) := by unfold entG; rw [hz2]
    have eb : (entG kcII z).born = z.2.2 := rfl
    rw [ek, ev] at eE
    rw [ek, ev, eb, ← hH2]
    have cll := cellsL_len e
    have hel := hI.el
    have hroom : G.X c p * 2 + 2 ≤ (cellsL e).length := by omega
    have hse := cellsL_set (e := e) (a := G.X c p) (x := (c, p)) (by omega)
    simp only [cells2, setL_cons, setL_nil] at hse
    have hmin : min h0.length H2.length = h0.length := by omega
    have hmin2 : min h0.length (h0.length + 2) = h0.length := by omega
    have c2' : ∀ l, (H2 ++ l)[h0.length + 2]? = _ := fun l => app_of c2 l
    have c3' : ∀ l, (H2 ++ l)[h0.length + 3]? = _ := fun l => app_of c3 l
    simp [g2, g3, g5, g18, eE, wrN_at0, set_at0, rd_def, c3', rdN_at0, hXN, wrN_def, c2', hroom, hse, hmin, hmin2, app_at0]
    have hbz : z.2.2 ∉ seen := hys
    refine ⟨e.set (G.X c p) (c, p), ((by rw [hH2]; exact hI.sub.set (by omega) _ : Sub h0 H2).app _).set (by omega) _, set_ne (app_of ?_ _) (by omega), set_ne (app_of ?_ _) (by omega), set_self (c2' _), set_ne (c3' _) (by omega), set_ne (app_of c4 _) (by omega), by simp [hl2, hHl]; omega, fun b o hb ho => ?_, by simp [hel], fun y hy' hys' a hya => ?_, ?_, fun b hb => ?_⟩
    · rw [hH2]; exact set_ne hI.b0 (by omega)
    · rw [hH2]; exact set_ne hI.b1 (by omega)
    · rw [List.getElem?_set_ne (by omega)] at ho
      by_cases hbl : b < H2.length
      · rw [List.getElem?_append_left hbl, hH2, List.getElem?_set_ne (by omega)] at ho
        exact hI.own b o hb ho
      · rw [List.getElem?_append_right (by omega)] at ho
        have h1 := (List.getElem?_eq_some_iff.1 ho).1
        simp at h1
        rw [show b - H2.length = 0 by omega] at ho
        simp at ho
        rw [← ho]; rfl
    · obtain ⟨y0, hy0, rfl⟩ := List.mem_map.1 hy'
      have hyb : (entG kcII y0).born = y0.2.2 := rfl
      have hyv : (entG kcII y0).val = y0.2.1 := rfl
      obtain ⟨c', p', hc', hp', hy1, hy2⟩ := lE_is y0 hy0
      rw [hyv, hy2] at hya
      have hqa := (in_place (hS.sign c' hc')).1 hp'
      have hXa := hG.X c' p' (by rw [hGn]; exact hc') hqa.1
      simp only [Value.int.injEq, true_and] at hya
      have haX : a = G.X c' p' := by omega
      by_cases ea : a = G.X c p
      · rw [ea, List.getElem?_set_self (by omega), hfin]
      · rw [List.getElem?_set_ne (Ne.symm ea)]
        rcases List.mem_append.1 hys' with h1 | h1
        · exact hI.met _ hy' h1 a (by rw [hyv, hy2, haX])
        · simp at h1
          rw [hyb] at h1
          have := pw_eq (f := fun w : (Nat × Nat) × Value × Nat => w.2.2) (lE_pw G.X s n) hy0 hz h1
          subst this
          rw [hz2] at hy2
          simp only [Value.int.injEq, true_and] at hy2
          omega
    · rw [List.nodup_append]
      refine ⟨hI.nd, by simp, fun a ha b hb => ?_⟩
      simp at hb
      rw [hb]; intro e'; rw [e'] at ha; exact hbz ha
    · rcases List.mem_append.1 hb with h1 | h1
      · exact hI.mem b h1
      · simp at h1
        exact ⟨_, hy, h1.symm⟩
  · rintro seen fr H' ⟨⟨e, hI⟩, g2, g3, g5, g18⟩ hall
    refine PW_of_DW ?_
    simp [g2, g3, g5, endK_ret]
    unfold pairQ back
    rw [if_neg (by simp [Out.scalar, scalar, flat1, flat])]
    have hbn : ((lE G.X s n).map fun w => w.2.2).Nodup := by
      have := lE_pw G.X s n
      exact List.pairwise_map.2 this
    have hlen : seen.length = N := by
      have a1 := nodup_le hI.nd (l := (lE G.X s n).map fun w => w.2.2) fun b hb => by
        obtain ⟨y, hy, rfl⟩ := hI.mem b hb
        obtain ⟨z, hz, rfl⟩ := List.mem_map.1 hy
        exact List.mem_map.2 ⟨z, hz, rfl⟩
      have a2 := nodup_le hbn (l := seen) fun b hb => by
        obtain ⟨z, hz, rfl⟩ := List.mem_map.1 hb
        exact hall _ (List.mem_map.2 ⟨z, hz, rfl⟩)
      rw [List.length_map, lE_length] at a1 a2
      omega
    have hfl : e = finL G := by
      apply List.ext_getElem?
      intro a
      by_cases ha : a < N
      · obtain ⟨c, p, hcp⟩ : ∃ c p, (c, p) = finT G a := ⟨_, _, rfl⟩
        obtain ⟨t0, t1, t2, t3, x1, x2, _⟩ := hG.T a (by omega)
        have hd := (hG.dir a (by omega)).2
        have hc : G.T a 2 < n := by rw [← hGn]; exact t2
        obtain ⟨b, hb⟩ := lE_has (X := G.X) (s := s) hc ((in_place (hS.sign _ hc)).2 ⟨t3, by rw [← hGs]; exact hd⟩)
        have hm := hI.met (entG kcII _) (List.mem_map.2 ⟨_, hb, rfl⟩) (hall _ (List.mem_map.2 ⟨_, hb, rfl⟩)) a (by show Value.int .i64 (G.X (G.T a 2) (G.T a 3)) = _; rw [x2])
        rw [hm]
        simp [finL, hGN, ha]
      · rw [List.getElem?_eq_none (by have := hI.el; omega), List.getElem?_eq_none (by simp [finL, hGN]; omega)]
    have hHl := hI.len
    refine ⟨rfl, rfl, by simp [walkM, hHl, hGN, hlen]; omega, fun b hb => ?_, fun b hb hb2 => ?_⟩
    · simp only at hb ⊢
      unfold walkM
      rw [List.getElem?_append_left (by simp; omega)]
      rw [List.getElem?_set_ne (by omega)]
      by_cases h1 : b < h0.length
      · rw [List.getElem?_append_left h1, hI.sub b h0[b] (List.getElem?_eq_getElem h1), List.getElem?_eq_getElem h1]
      · obtain ⟨d, rfl⟩ : ∃ d, b = h0.length + d := ⟨b - h0.length, by omega⟩
        rw [app_at]
        match d, (show d < 4 by omega) with
        | 0, _ => exact hI.b0.symm
        | 1, _ => exact hI.b1.symm
        | 2, _ => rw [← hfl]; exact hI.b2.symm
        | 3, _ => rw [hGN]; exact hI.b3.symm
    · simp only [walkM, List.length_append, List.length_cons, List.length_nil, List.length_replicate] at hb hb2 ⊢
      refine ⟨?_, fun o ho => ?_⟩
      · rw [List.getElem?_append_right (by simp; omega), List.getElem?_replicate, if_pos]
        simp at hb2 ⊢
        omega
      · by_cases h1 : b = h0.length + 4
        · rw [h1, List.getElem?_set_self (by omega)] at ho
          obtain rfl := Option.some.inj ho
          rfl
        · rw [List.getElem?_set_ne (by omega)] at ho
          exact hI.own b o (by omega) ho
  · have hrep : ∀ k, rep k [Value.int .i64 0, .int .i64 0] = cellsL (List.replicate k (0, 0)) := fun k => by
      induction k with
      | zero => rfl
      | succ k ih =>
        show (List.replicate (k + 1) [Value.int .i64 0, .int .i64 0]).flatten = _
        rw [List.replicate_succ, List.flatten_cons, List.replicate_succ]
        show _ ++ rep k [Value.int .i64 0, .int .i64 0] = cells2 (0, 0) ++ cellsL (List.replicate k (0, 0))
        rw [ih]; rfl
    have hiter : (H ++ [O.iter (some mb) N [] N])[h0.length + 4]? = some (.iter (some mb) N [] N) := by rw [← hlH, app_at0]; rfl
    refine ⟨⟨List.replicate N (0, 0), fun b o hb => app_of (by rw [hH]; exact app_of hb _) _, app_of hb0 _, app_of (by rw [hH, app_at]; rfl) _, app_of (by rw [hH, app_at, ← hrep]; rfl) _, app_of (by rw [hH, app_at]; rfl) _, hiter, by simp [hlH], fun b o hb ho => ?_, by simp, fun y _ hy => by simp at hy, List.nodup_nil, fun b hb => by simp at hb⟩, ?_⟩
    · have := (List.getElem?_eq_some_iff.1 ho).1
      simp [hlH] at this
      omega
    · simp [hlH]
end Go.Proofs.Ytjlkndkedknocaa
namespace Go.Ai
theorem and3 {p : Nat} (hp : p < 4) : binV .and (.int .i64 ((p : Int) + 2)) (.int .i64 3) = some (.int .i64 (((p + 2) % 4 : Nat) : Int)) := by
  match p, hp with
  | 0, _ => rfl
  | 1, _ => rfl
  | 2, _ => rfl
  | 3, _ => rfl
end Go.Ai
namespace Go.Proofs.Ytjlkndkedknocaa
open Go Go.Ai
set_option linter.unusedSimpArgs false
set_option linter.unusedVariables false
attribute [local instance] Classical.propDecidable
theorem cellsL_two : ∀ {l : List (Nat × Nat)} {j : Nat} {x : Nat × Nat}, l[j]? = some x → j * 2 + 2 ≤ (cellsL l).length ∧ ((cellsL l).drop (j * 2)).take 2 = cells2 x ∧ (cellsL l)[j * 2]? = some (.int .i64 x.1) ∧ (cellsL l)[j * 2 + 1]? = some (.int .i64 x.2)
  | [], j, x, h => by simp at h
  | y :: l, 0, x, h => by
    simp at h
    subst h
    have e : cellsL (y :: l) = cells2 y ++ cellsL l := rfl
    rw [e]
    simp [cells2]
  | y :: l, j + 1, x, h => by
    simp at h
    obtain ⟨h1, h2, h3, h4⟩ := cellsL_two h
    have e : cellsL (y :: l) = cells2 y ++ cellsL l := rfl
    rw [e, show (j + 1) * 2 = j * 2 + 2 by omega]
    simp only [cells2, List.cons_append, List.nil_append, List.length_cons, List.drop_succ_cons, List.getElem?_cons_succ, show j * 2 + 2 + 1 = (j * 2 + 1) + 2 by omega]
    exact ⟨by omega, h2, h3, h4⟩
theorem finL_at {G : Dg} {a : Nat} (h : a < 2 * G.n) : (finL G)[a]? = some (finT G a) := by simp [finL, h]
variable {E : Env} (hE : OE E)
include hE
theorem walk1_ {G : Dg} (hG : GoodG G) {pl k pf pe pL eb N m a0 : Nat} (ha0 : a0 < 2 * G.n) (hm : 0 < m) (hmend : itr (nx G) a0 m = a0) (hmid : ∀ i, 0 < i → i < m → itr (nx G) a0 i ≠ a0)
    {I : Nat → List O → Nat → Prop}
    (hdi : ∀ i h f, I i h f → h[pf]? = some (.cells [.int .i64 a0] 3 (some 0)) ∧ h[pe]? = some (.cells [.slice (some ⟨eb, 0, none⟩) (2 * G.n) (2 * G.n)] 215 (some 0)) ∧ h[eb]? = some (.cells (cellsL (finL G)) 72 (some 0)) ∧
      h[pL]? = some (.cells [.pointer (some ⟨pl, 0, none⟩)] 155 (some 0)) ∧ (∃ uv xa xc L av cnt cv kk mv, h[pl]? = some (.cells (linkC uv xa G.n xc L av cnt cv kk mv) 170 (some 0)) ∧ CrossP h xa G.n (fun i j => G.X i j) G.s) ∧ (0 < i → f < N))
    (hround : ∀ i h f, i < m → I i h f → DC E (yB + k) [endV (finT G (itr (nx G) a0 i))] ⟨h, h.length⟩ fun o st' => o = .ret (.bool true) ∧ I (i + 1) (joined ⟨h, f⟩ st').h (joined ⟨h, f⟩ st').fl)
    {h : List O} (hi : I 0 h h.length) (hN : N = h.length) :
    DC E 212 [tok k, .pointer (some ⟨pf, 0, none⟩), .pointer (some ⟨pe, 0, none⟩), .pointer (some ⟨pL, 0, none⟩)] ⟨h, h.length⟩ fun o st' => o = .ret (.tuple #[]) ∧ I m st'.h st'.fl := by
  refine hE.fnC (body := rb212) rfl ?_
  unfold rb212
  have hN2 := nx_perm hG
  have hsz := hG.size
  obtain ⟨f0, _⟩ := hdi 0 h h.length hi
  simp [rd_def, f0]
  refine DW_loop (fun kk fr st => ∃ i h f, i + kk = m ∧ i < m ∧ st = ⟨h, f⟩ ∧ I i h f ∧ get fr 0 = tok k ∧ get fr 1 = .pointer (some ⟨pf, 0, none⟩) ∧ get fr 2 = .pointer (some ⟨pe, 0, none⟩) ∧ get fr 3 = .pointer (some ⟨pL, 0, none⟩) ∧ get fr 5 = .int .i64 (itr (nx G) a0 i)) ?_ (k := m) ?_
  · rintro kk fr st ⟨i, h1, f1, hik, him, rfl, hI, g0, g1, g2, g3, g5⟩
    obtain ⟨d1, d2, d3, d4, ⟨uv, xa, xc, L, av, cnt, cv, kc, mv, d5, d6⟩, d7⟩ := hdi _ _ _ hI
    have ha := hN2.itr_lt ha0 i
    have hr := hround i h1 f1 him hI
    have ha1 : itr (nx G) a0 (i + 1) = nx G (itr (nx G) a0 i) := rfl
    generalize itr (nx G) a0 i = a at ha hr ha1 g5
    have ha' : (a : Int) < 2 * (G.n : Int) := by omega
    obtain ⟨c1, c2, c3, c4⟩ := cellsL_two (finL_at ha)
    simp only [cells2] at c2
    simp only [endV] at hr
    simp [g0, g2, g5, rd_def, rdN_def, d2, d3, ha, ha', c1, c2, tok]
    refine hr.imp ?_
    rintro o st' ⟨rfl, hI'⟩
    simp only [callK_ret]
    generalize joined ⟨h1, f1⟩ st' = s1 at hI' ⊢
    obtain ⟨h2, f2⟩ := s1
    simp only at hI' ⊢
    obtain ⟨k1, k2, k3, k4, ⟨uv, xa, xc, L, av, cnt, cv, kc, mv, k5, k6⟩, k7⟩ := hdi _ _ _ hI'
    unfold linkC at k5
    obtain ⟨xb, xo, hxa, hxr⟩ := k6
    obtain rfl := hxa (by omega)
    obtain ⟨t0, t1, t2, t3, _⟩ := hG.T a ha
    have hf2 := k7 (by omega)
    have hq : (G.T a 3 + 2) % 4 < 4 := Nat.mod_lt _ (by omega)
    have hcr := rd_of_rdN (hxr _ t2) (show (G.T a 3 + 2) % 4 < 5 by omega)
    have hv : (crossC (fun j => (G.X (G.T a 2) j : Int)) (G.s (G.T a 2)))[(G.T a 3 + 2) % 4]? = some (.int .i64 (nx G a)) := by
      unfold nx
      generalize (G.T a 3 + 2) % 4 = q at hq ⊢
      match q, hq with
      | 0, _ => rfl
      | 1, _ => rfl
      | 2, _ => rfl
      | 3, _ => rfl
    rw [hv] at hcr
    rw [rd_def] at hcr
    have hw : IntKind.i64.wrap ((G.T a 3 : Int) + 2) = (G.T a 3 : Int) + 2 := by rw [w64_id] <;> omega
    have e1 : (finT G a).1 = G.T a 2 := rfl
    have e2 : (finT G a).2 = G.T a 3 := rfl
    rw [e1] at c3
    rw [e2] at c4
    have t2' : (G.T a 2 : Int) < G.n := by omega
    have hq' : (((G.T a 3 + 2) % 4 : Nat) : Int) < 4 := by omega
    have ha3 := and3 t3
    generalize (G.T a 3 + 2) % 4 = q at hq hcr hq' ha3
    by_cases hend : nx G a = a0
    · have him' : i + 1 = m := by
        rcases Nat.lt_or_ge (i + 1) m with h | h
        · exact absurd (ha1.trans hend) (hmid _ (by omega) h)
        · omega
      subst him'
      have hqf : ¬ (h.length ≤ f2) := by omega
      simp [g0, g1, g2, g3, g5, rd_def, k1, k2, k3, k4, k5, ha, ha', c3, c4, hw, ha3, t2, t2', hq, hq', hcr, hend, endK_ret, back, Out.scalar, scalar, hqf]
      exact hI'
    · have him' : i + 1 ≠ m := fun e => hend (by rw [← ha1, e]; exact hmend)
      simp [g0, g1, g2, g3, g5, rd_def, k1, k2, k3, k4, k5, ha, ha', c3, c4, hw, ha3, t2, t2', hq, hq', hcr, hend]
      exact ⟨kk - 1, by omega, i + 1, by omega, by omega, h2, f2, ⟨rfl, rfl⟩, hI', rfl, ha1.symm⟩
  · exact ⟨0, h, h.length, by omega, hm, rfl, hi, by simp [itr]⟩
end Go.Proofs.Ytjlkndkedknocaa
namespace Go.Ai
theorem flat_len {v : Value} {a : Option Addr} {n c : Nat} (h : v = .slice a n c) (hf : flat v = true) : n = 0 := by
  subst h
  unfold flat at hf
  split at hf <;> first | rfl | (simp_all; done) | (rename_i e; cases e; rfl) | (cases hf)
theorem Mat.flat {h h' : List O} {v : Value} {A : List (List Int)} (hm : Mat h v A) (hf : Ai.flat v = true) : Mat h' v A := by
  obtain ⟨a, b, o, c, vs, h1, h2, h3, h4⟩ := hm
  have := flat_len h1 hf
  exact ⟨a, b, o, c, vs, h1, h2, fun i hi => by omega, h4⟩
theorem Ints.flat {h h' : List O} {v : Value} {A : List Int} (hm : Ints h v A) (hf : Ai.flat v = true) : Ints h' v A := by
  obtain ⟨a, b, o, c, h1, h2, h3, h4⟩ := hm
  have := flat_len h1 hf
  exact ⟨a, b, o, c, h1, h2, fun i hi => by omega, h4⟩
def MatN (h : List O) (lo : Nat) (v : Value) (A : List (List Int)) : Prop := ∀ h' : List O, (∀ (b : Nat) (o : O), lo ≤ b → h[b]? = some o → h'[b]? = some o) → Mat h' v A
theorem MatN.mat {h : List O} {lo : Nat} {v : Value} {A : List (List Int)} (k : MatN h lo v A) : Mat h v A := k h fun _ _ _ hb => hb
theorem MatN.low {h : List O} {lo lo' : Nat} {v : Value} {A : List (List Int)} (k : MatN h lo v A) (hl : lo' ≤ lo) : MatN h lo' v A := fun h' hk => k h' fun b o hb => hk b o (by omega)
end Go.Ai
namespace Go.Proofs.Ytjlkndkedknocaa
open Go Go.Ai
set_option linter.unusedSimpArgs false
set_option linter.unusedVariables false
attribute [local instance] Classical.propDecidable
noncomputable def gen (G : Dg) (a : Nat) : Int := arN G a + 1
noncomputable def relOf (G : Dg) (i : Nat) : List Int := [-(gen G (G.X i 1)) * G.s i, gen G (G.X i 0), gen G (G.X i 1) * G.s i, -(gen G (G.X i 2))]
noncomputable def relL (G : Dg) : List (List Int) := (List.range G.n).map (relOf G)
theorem relL_length (G : Dg) : (relL G).length = G.n := by simp [relL]
theorem relL_nth {G : Dg} {i : Nat} (h : i < G.n) : nthR (relL G) i = relOf G i := by simp [relL, nthR, h]
theorem gen_le {G : Dg} (hG : GoodG G) {i q : Nat} (hi : i < G.n) (hq : q < 4) : 1 ≤ gen G (G.X i q) ∧ gen G (G.X i q) ≤ arC G := by
  have := arN_lt (hG.X i q hi hq)
  unfold gen
  omega
theorem relOf_small {G : Dg} (hG : GoodG G) {i : Nat} (hi : i < G.n) (j : Nat) : -1000 ≤ nth (relOf G i) j ∧ nth (relOf G i) j ≤ 1000 := by
  have h0 := gen_le hG hi (show 0 < 4 by omega)
  have h1 := gen_le hG hi (show 1 < 4 by omega)
  have h2 := gen_le hG hi (show 2 < 4 by omega)
  have hc := arC_le G
  have hs := hG.size
  unfold relOf
  match j with
  | 0 => rcases hG.sign i hi with e | e <;> simp [nth, e] <;> omega
  | 1 => simp [nth]; omega
  | 2 => rcases hG.sign i hi with e | e <;> simp [nth, e] <;> omega
  | 3 => simp [nth]; omega
  | j + 4 => simp [nth]
def RelsI (h : List O) (lo : Nat) (G : Dg) (i : Nat) (vs : List Value) : Prop :=
  ∀ q, q < i → ∃ b, vs[q]? = some (.slice (some ⟨b, 0, none⟩) 4 4) ∧ lo ≤ b ∧ h[b]? = some (.cells (intsC (relOf G q)) 3 (some 0))
variable {E : Env} (hE : OE E)
include hE
theorem presentation_ {h0 : List O} {pl n : Nat} {x : Nat → Nat → Int} {s : Nat → Int} {L : Int} (hl : LnkP h0 pl n x s L) (hS : Snd n x s L) :
    DC E 131 [.pointer (some ⟨pl, 0, none⟩)] ⟨h0, h0.length⟩ fun o st' => ∃ v, o = .ret (.agg #[.int .i64 (arC (dgOf n x s L) + L), v]) ∧ Sub h0 st'.h ∧ h0.length ≤ st'.fl ∧ MatN st'.h h0.length v (relL (dgOf n x s L)) := by
  refine hE.fnC (body := rb131) rfl ?_
  unfold rb131
  have hsz := hS.size
  obtain ⟨G, hGe⟩ : ∃ G, G = dgOf n x s L := ⟨_, rfl⟩
  have hG : GoodG G := by rw [hGe]; exact good_of hS
  have hGn : G.n = n := by rw [hGe]; rfl
  have hGs : G.s = s := by rw [hGe]; rfl
  have hX : ∀ i q, i < n → q < 4 → x i q = (G.X i q : Int) := fun i q hi hq => by rw [hGe]; exact sound_x hS hi hq
  have hXlt : ∀ i q, i < n → q < 4 → G.X i q < 2 * n := fun i q hi hq => by rw [← hGn]; exact hG.X i q (by rw [hGn]; exact hi) hq
  have hl' := hl
  obtain ⟨uv0, xa, xc, ab, cb, mb, k1, hx, k3, k4, k5, hO, hk'⟩ := hl'
  unfold linkC at k1
  have hk1 : ∀ l, (h0 ++ l)[pl]? = _ := fun l => app_of k1 l
  have hpl := (List.getElem?_eq_some_iff.1 k1).1
  simp [rd_def, hk1, wrN_at0, wrN_at, set_at, set_at0, List.append_assoc]
  rw [← hGe]
  refine DW_loop (fun kk fr st => ∃ (i : Nat) (h : List O) (uv : Value) (vs : List Value), i + kk = n ∧ st = ⟨h, h0.length⟩ ∧ Sub h0 h ∧ AtB h h0.length (.cells [.int .i64 0, .slice none 0 0] 81 (some 0)) ∧ AtB h (h0.length + 1) (.cells [.int .i64 (arC G + L), uv] 81 (some 0)) ∧
    OwnS h (h0.length + 2) uv i vs 34 1 ∧ RelsI h (h0.length + 2) G i vs ∧
    get fr 0 = .pointer (some ⟨pl, 0, none⟩) ∧ get fr 2 = .pointer (some ⟨h0.length, 0, none⟩) ∧ get fr 3 = .pointer (some ⟨h0.length + 1, 0, none⟩) ∧ get fr 18 = .slice xa n xc ∧ get fr 19 = .int .i64 n ∧ get fr 20 = .int .i64 i) ?_ (k := n) ?_
  · rintro kk fr st ⟨i, h, uv, vs, hik, rfl, hsub, a2, a3, hu, hR, g0, g2, g3, g18, g19, g20⟩
    have b2 := a2
    have b3 := a3
    unfold AtB at b2 b3
    have hl3 := (List.getElem?_eq_some_iff.1 b3).1
    have hmin : min h0.length (h0.length + 1) = h0.length := by omega
    by_cases hi : i < n
    · have hw : IntKind.i64.wrap ((i : Int) + 1) = (i : Int) + 1 := by rw [w64_id] <;> omega
      obtain ⟨xb, xo, hxa, hxr⟩ := hx
      obtain rfl := hxa (by omega)
      have hcr : rdN h xb (xo + i * 5) 5 = some (crossC (x i) (s i)) := hsub.rdN (hxr i hi)
      rw [rdN_def] at hcr
      simp only [crossC] at hcr
      rw [hX i 0 hi (by omega), hX i 1 hi (by omega), hX i 2 hi (by omega), hX i 3 hi (by omega)] at hcr
      obtain ⟨H, hH⟩ : ∃ H, H = h ++ [O.cells [.int .i64 (G.X i 0), .int .i64 (G.X i 1), .int .i64 (G.X i 2), .int .i64 (G.X i 3), .int .i64 (s i)] 107 (some 0)] := ⟨_, rfl⟩
      have hpc : H[h.length]? = some (O.cells [.int .i64 (G.X i 0), .int .i64 (G.X i 1), .int .i64 (G.X i 2), .int .i64 (G.X i 3), .int .i64 (s i)] 107 (some 0)) := by rw [hH, app_at0]; rfl
      have hlH : H.length = h.length + 1 := by rw [hH]; simp
      have hsH : Sub h0 H := by rw [hH]; exact hsub.app _
      have hg := fun q (hq : q < 4) => generator_ hE (hl.sub hsH) hsz (hXlt i q hi hq)
      rw [← hGe] at hg
      have hgv : ∀ q, q < 4 → 1 ≤ gen G (G.X i q) ∧ gen G (G.X i q) ≤ 1000 := fun q hq => by
        have h1 := gen_le hG (by rw [hGn]; exact hi) hq
        have h2 := arC_le G
        rw [hGn] at h2
        omega
      have hgq : ∀ q, q < 4 → (arN G (G.X i q) : Int) + 1 = gen G (G.X i q) := fun q hq => rfl
      have hg0 := hg 0 (by omega)
      have hg1 := hg 1 (by omega)
      have hg2 := hg 2 (by omega)
      rw [hgq 0 (by omega)] at hg0
      rw [hgq 1 (by omega)] at hg1
      rw [hgq 2 (by omega)] at hg2
      have v0 := hgv 0 (by omega)
      have v1 := hgv 1 (by omega)
      have v2 := hgv 2 (by omega)
      have hrel : relOf G i = [-(gen G (G.X i 1)) * s i, gen G (G.X i 0), gen G (G.X i 1) * s i, -(gen G (G.X i 2))] := by unfold relOf; rw [hGs]
      have w1 : IntKind.i64.wrap (IntKind.i64.wrap (-gen G (G.X i 1)) * s i) = -(gen G (G.X i 1)) * s i := by
        rcases hS.sign i hi with e | e <;> rw [e] <;> rw [w64_id (x := -_) (by omega) (by omega)] <;> rw [w64_id] <;> omega
      have w2 : IntKind.i64.wrap (gen G (G.X i 1) * s i) = gen G (G.X i 1) * s i := by
        rcases hS.sign i hi with e | e <;> rw [e] <;> rw [w64_id] <;> omega
      have w3 : IntKind.i64.wrap (-gen G (G.X i 2)) = -(gen G (G.X i 2)) := by rw [w64_id] <;> omega
      have hpc0 : H[h.length]? = some (O.cells [.int .i64 (G.X i 0), .int .i64 (G.X i 1), .int .i64 (G.X i 2), .int .i64 (G.X i 3), .int .i64 (s i)] 107 (some 0)) := hpc
      obtain ⟨H2, hH2⟩ : ∃ H2, H2 = H ++ [O.cells (intsC (relOf G i)) 3 (some 0)] := ⟨_, rfl⟩
      have hH2' : H2 = H ++ [O.cells [.int .i64 (-(gen G (G.X i 1)) * s i), .int .i64 (gen G (G.X i 0)), .int .i64 (gen G (G.X i 1) * s i), .int .i64 (-(gen G (G.X i 2)))] 3 (some 0)] := by rw [hH2, hrel]; rfl
      have hl2 : H2.length = H.length + 1 := by rw [hH2]; simp
      have b3H : H[h0.length + 1]? = some (.cells [.int .i64 (arC G + L), uv] 81 (some 0)) := by rw [hH]; exact app_of b3 _
      have hmin2 : min h0.length h.length = h0.length := by omega
      have hE2 : Ext h H2 := by rw [hH2, hH]; exact (Ext.snoc _ _).trans (Ext.snoc _ _)
      have hu2 : OwnS (H2 ++ [.cells [.slice (some ⟨H.length, 0, none⟩) 4 4] 34 (some 0)]) (h0.length + 2) uv i vs 34 1 := hu.ext (hE2.trans (Ext.snoc _ _))
      have hread : readSlice (H2 ++ [.cells [.slice (some ⟨H.length, 0, none⟩) 4 4] 34 (some 0)]) 1 1 (some ⟨H2.length, 0, none⟩) = some [.slice (some ⟨H.length, 0, none⟩) 4 4] := by simp [readSlice, rdN_at0]
      obtain ⟨b', H4, f4, happ, hb', hown, hf1, hf2, hL4, K4⟩ := append_S (fl := h0.length) (c := 1) (bytes := 24) hu2 hread (by simp) (by simp) (by simp [hl2]; omega) (by simp only [roomMax]; omega) (by omega)
      obtain rfl : f4 = h0.length := by omega
      have hne : ∀ (b : Nat), b < h0.length + 2 → ∀ n' c', uv ≠ .slice (some ⟨b, 0, none⟩) n' c' := fun b hb n' c' e => by
        rcases hu.2 with ⟨h1, _⟩ | ⟨b2, s2, h1, h2, _⟩
        · rw [e] at h1; cases h1
        · rw [e] at h1
          simp only [Value.slice.injEq, Option.some.injEq, Addr.mk.injEq] at h1
          omega
      have hnei : ∀ (b : Nat) (cs : List Value) (ow : Option Nat), H2[b]? = some (.cells cs 3 ow) → ∀ n' c', uv ≠ .slice (some ⟨b, 0, none⟩) n' c' := fun b cs ow hb n' c' e => by
        rcases hu.2 with ⟨h1, _⟩ | ⟨b2, s2, h1, h2, h3, _⟩
        · rw [e] at h1; cases h1
        · rw [e] at h1
          simp only [Value.slice.injEq, Option.some.injEq, Addr.mk.injEq] at h1
          obtain ⟨l, hl⟩ := hE2
          rw [h1.1.1, hl, app_of h3] at hb
          cases hb
      have kB : ∀ (b : Nat) (o : O), h[b]? = some o → (∀ n' c', uv ≠ .slice (some ⟨b, 0, none⟩) n' c') → H4[b]? = some o := fun b o hb hn => by
        obtain ⟨l, hl⟩ := hE2
        exact K4 b o (by rw [hl, List.append_assoc]; exact app_of hb _) hn
      have k3' := kB _ _ b3 (hne _ (by omega))
      rw [hl2] at happ
      have happ2 := happ
      simp only [hH2', List.append_assoc, List.cons_append, List.nil_append] at happ2
      simp [g0, g2, g3, g18, g19, g20, hi, rdN_def, hcr, wrN_at0, set_at0, app_at0, ← hH, ← hlH, hpc, DC_of hg0, DC_of hg1, DC_of hg2, bit, rd_def, w1, w2, w3, hmin2, b3H, happ2, wrN_def, k3', hmin, hw]
      refine ⟨kk - 1, by omega, i + 1, by omega, fun b o hb => ?_, ?_, .slice (some ⟨b', 0, none⟩) (i + 1) (i + 1), ?_, vs ++ [.slice (some ⟨H.length, 0, none⟩) 4 4], ?_, fun q hq => ?_, by omega⟩
      · have hbl := (List.getElem?_eq_some_iff.1 hb).1
        exact set_ne (kB b o (hsub b o hb) (hne _ (by omega))) (by omega)
      · exact set_ne (kB _ _ b2 (hne _ (by omega))) (by omega)
      · exact set_self k3'
      · exact hown.keep fun b s' e1 e2 => set_ne e2 (by
          simp at e1 hb'
          omega)
      · by_cases e : q < i
        · obtain ⟨b, r1, r2, r3⟩ := hR q e
          have hvl : vs.length = i := by have := hu.1; omega
          refine ⟨b, by rw [List.getElem?_append_left (by omega)]; exact r1, r2, set_ne (kB b _ r3 (hnei b (intsC (relOf G q)) (some 0) ?_)) (by omega)⟩
          obtain ⟨l, hl⟩ := hE2
          rw [hl]; exact app_of r3 _
        · have hqi : q = i := by omega
          subst hqi
          have hvl : vs.length = q := by have := hu.1; omega
          have hin : H2[H.length]? = some (O.cells (intsC (relOf G q)) 3 (some 0)) := by rw [hH2, app_at0]; rfl
          refine ⟨H.length, by rw [List.getElem?_append_right (by omega), hvl]; simp, by omega, set_ne (K4 _ _ (app_of hin _) (hnei _ _ _ hin)) (by omega)⟩
    · have hin : i = n := by omega
      subst hin
      have hne2 : ¬ h0.length + 1 = h0.length := by omega
      have b2s := fun o => set_self (x := o) b2
      have hone : one1 uv = true := by rcases hu.2 with ⟨h1, _⟩ | ⟨b, su, h1, _⟩ <;> rw [h1] <;> rfl
      simp [g0, g2, g3, g18, g19, g20, rdN_def, b3, wrN_def, b2, b2s, hone]
      unfold pairQ back
      have hvl : vs.length = i := by have := hu.1; omega
      have hM : ∀ h', (∀ (b : Nat) (o : O), h0.length + 2 ≤ b → h[b]? = some o → h'[b]? = some o) → Mat h' uv (relL G) := fun h' hk => by
        have hi200 : (relL G).length = i := by rw [relL_length, hGn]
        rcases hu.2 with ⟨h1, h2⟩ | ⟨b, su, h1, h2, h3, _⟩
        · have : relL G = [] := List.length_eq_zero_iff.1 (by omega)
          rw [h1, this]
          exact ⟨none, 0, 0, 0, fun _ => undef, rfl, fun h => absurd h (by simp), fun i hi => absurd hi (by simp), by simp⟩
        · refine ⟨some ⟨b, 0, none⟩, b, 0, i, fun q => (vs[q]?).getD undef, by rw [h1, hi200], fun _ => rfl, fun q hq => ?_, by omega⟩
          obtain ⟨b', r1, r2, r3⟩ := hR q (by omega)
          have h3' := hk _ _ (by omega) h3
          have r3' := hk _ _ r2 r3
          refine ⟨by rw [rd_def, h3']; simp [r1], ?_⟩
          rw [relL_nth (by omega)]
          simp only [r1, Option.getD_some]
          refine ⟨some ⟨b', 0, none⟩, b', 0, 4, rfl, fun _ => rfl, fun j hj => ?_, fun j => ?_, ?_⟩
          · rw [rd_def, r3']
            simp only [rdO_cells, Nat.zero_add]
            exact intsC_get hj
          · have := relOf_small hG (i := q) (by omega) j
            constructor <;> omega
          · simp [relOf]
      have hM0 := hM h fun _ _ _ hb => hb
      split
      · rename_i hc
        refine ⟨_, rfl, Sub.refl _, Nat.le_refl _, fun h' _ => Mat.flat hM0 ?_⟩
        simp [Out.scalar, scalar, flat1] at hc
        exact hc.2
      · exact ⟨_, rfl, (hsub.set (Nat.le_refl _) _), Nat.le_refl _, fun h' hk => hM h' fun b o hb ho => hk b o (by omega) (set_ne ho (by omega))⟩
  · refine ⟨0, _, .slice none 0 0, [], by omega, rfl, (Sub.refl h0).app _, ?_, ?_, OwnS.nil _ _ _ _, fun q hq => by omega, by simp⟩
    · unfold AtB; rw [app_at0]; rfl
    · unfold AtB; rw [app_at, hGe]; simp
theorem ofW_ {h0 : List O} {a : Option Addr} {n c : Nat} {x : Nat → Nat → Int} {s : Nat → Int} {L : Int} (hx : CrossP h0 a n x s) :
    DC E 63 [dV a n c L] ⟨h0, h0.length⟩ fun o st' => (kindD n x s L ≠ 0 ∧ o = .ret (.tuple #[.agg #[.int .i64 0, .slice none 0 0], .int .i64 (kindD n x s L)]) ∧ Sub h0 st'.h ∧ h0.length ≤ st'.fl) ∨
      (kindD n x s L = 0 ∧ ∃ v, o = .ret (.tuple #[.agg #[.int .i64 (arC (dgOf n x s L) + L), v], .int .i64 0]) ∧ Sub h0 st'.h ∧ h0.length ≤ st'.fl ∧ MatN st'.h h0.length v (relL (dgOf n x s L))) := by
  refine hE.fnC (body := rb63) rfl ?_
  unfold rb63
  have hx1 : CrossP (h0 ++ [O.cells [.slice a n c, .int .i64 L] 24 (some 0), O.cells [.int .i64 0, .slice none 0 0] 81 (some 0)]) a n x s := hx.ext (Ext.snoc _ _)
  have h1 := check_ hE (c := c) (L := L) hx1
  simp [dV] at h1
  by_cases hk : kindD n x s L = 0
  · have h2 := newLinkC_ hE (c := c) hx1 hk
    simp [dV] at h2
    have hS := (kind_zero hk).1
    simp [dV, rdN_at0, joined_fl, DC_of h1, hk, List.append_assoc]
    refine h2.imp ?_
    rintro o ⟨h3, f3⟩ ⟨pl, rfl, hp, hf, hs, hl⟩
    simp only at hf hs hl
    have hs0 : Sub h0 h3 := ((Sub.refl h0).app _).trans hs
    simp [joined_fl, hf]
    refine (presentation_ hE hl hS).imp ?_
    rintro o ⟨h4, f4⟩ ⟨v, rfl, hs4, hf4, hM⟩
    simp only at hf4 hs4 hM
    have hb2 : h4[h0.length + 1]? = some (O.cells [.int .i64 0, .slice none 0 0] 81 (some 0)) := hs4 _ _ (hs _ _ (by rw [app_at]; rfl))
    have hmin : min h0.length (h0.length + 1) = h0.length := by omega
    have hl4 := (List.getElem?_eq_some_iff.1 hb2).1
    have hM0 := hM.mat
    have hone : one1 v = true := by obtain ⟨va, vb, vo, vc, vvs, hv, hvr⟩ := hM0; rw [hv]; rfl
    have hl3 := hs.len
    simp at hl3
    simp [joined_fl, hf4, wrN_def, hb2, hmin, hone, rdN_def, List.getElem?_set_self hl4, endK_ret]
    unfold pairQ back
    split
    · rename_i hc
      have hfl : flat v = true := by
        simp [Out.scalar, scalar, flat1] at hc
        exact hc.1.2
      exact ⟨v, rfl, Sub.refl _, Nat.le_refl _, fun h' _ => Mat.flat hM0 hfl⟩
    · exact ⟨v, rfl, (hs0.trans hs4).set (by omega) _, Nat.le_refl _, fun h' hk => hM h' fun b o hb ho => hk b o (by omega) (set_ne ho (by omega))⟩
  · simp [dV, rdN_at0, joined_fl, DC_of h1, hk, endK_ret, wrN_at, set_at, rdN_at, List.append_assoc]
    unfold pairQ back
    split
    · exact ⟨rfl, Sub.refl _, Nat.le_refl _⟩
    · exact ⟨rfl, (Sub.refl _).app _, Nat.le_refl _⟩
end Go.Proofs.Ytjlkndkedknocaa
namespace Go.Proofs.Ytjlkndkedknocaa
open Go Go.Ai
set_option linter.unusedSimpArgs false
set_option linter.unusedVariables false
attribute [local instance] Classical.propDecidable
noncomputable def wordP (G : Dg) (x : Nat × Nat) : List Int := if x.2 = 0 then [gen G (G.X x.1 1) * G.s x.1] else []
noncomputable def ownP (G : Dg) (k : Int) (x : Nat × Nat) : Int := if x.2 = 0 ∧ nth (cpL G) (G.X x.1 1) = k then G.s x.1 else 0
def RndP (h : List O) (f base k N p8 p11 : Nat) (ws : List Int) (sm : Int) (st' : St) : Prop :=
  ∃ h' f' ov', joined ⟨h, f⟩ st' = ⟨h', f'⟩ ∧ base ≤ f' ∧ f' ≤ k ∧ h'[p8]? = some (.cells [ov'] 34 (some 0)) ∧ h'[p11]? = some (.cells [.int .i64 sm] 3 (some 0)) ∧
    OwnT h' N ov' ws.length (intsC ws) 3 1 ∧ h.length ≤ h'.length ∧ ∀ (b : Nat) (o : O), b < N → h[b]? = some o → b ≠ p8 → b ≠ p11 → h'[b]? = some o
variable {E : Env} (hE : OE E)
include hE
theorem roundL_ {h hL : List O} {f k pl n N base dB pc p7 p8 p11 i xc : Nat} {xa : Option Addr} {x : Nat → Nat → Int} {s : Nat → Int} {L : Int} {frL : Fr} {c p : Nat} {ws : List Int} {sm comp : Int} {ov : Value}
    (hk : h[k]? = some (.loop false 98 frL [44] (lcA 70 0) (lcB 70 0))) (g2 : get frL 2 = .pointer (some ⟨dB, 0, none⟩)) (g3 : get frL 3 = .pointer (some ⟨pc, 0, none⟩)) (g7 : get frL 7 = .pointer (some ⟨p7, 0, none⟩)) (g8 : get frL 8 = .pointer (some ⟨p8, 0, none⟩)) (g11 : get frL 11 = .pointer (some ⟨p11, 0, none⟩))
    (hl : LnkP hL pl n x s L) (hS : Snd n x s L) (hs : Sub hL h) (hdB : hL[dB]? = some (.cells [.slice xa n xc, .int .i64 L] 24 (some 0))) (hx : CrossP hL xa n x s) (hpc : hL[pc]? = some (.cells [.int .i64 comp] 3 (some 0)))
    (h7 : h[p7]? = some (.cells [.pointer (some ⟨pl, 0, none⟩)] 155 (some 0))) (h8 : h[p8]? = some (.cells [ov] 34 (some 0))) (h11 : h[p11]? = some (.cells [.int .i64 sm] 3 (some 0)))
    (hov : OwnT h N ov ws.length (intsC ws) 3 1) (hN : N ≤ h.length) (hws : ws.length ≤ 1000) (hsm : -1000 ≤ sm ∧ sm ≤ 1000) (hc : c < n) (hp : p < 4)
    (b0 : hL.length ≤ base) (b7 : p7 < N) (b8 : base ≤ p8) (b11 : base ≤ p11) (bk : base ≤ k) (bf : base ≤ f) (l7 : k < N) (l8 : p8 < N) (l11 : p11 < N) (n1 : p7 ≠ p8) (n2 : p7 ≠ p11) (n3 : p8 ≠ p11) :
    DC E (yB + k) [endV (c, p)] ⟨h, h.length⟩ fun o st' => o = .ret (.bool true) ∧ RndP h f base k N p8 p11 (ws ++ wordP (dgOf n x s L) (c, p)) (sm + ownP (dgOf n x s L) comp (c, p)) st' := by
  have lk := (List.getElem?_eq_some_iff.1 hk).1
  have m1 : k ≠ p7 := fun e => by subst e; rw [hk] at h7; cases h7
  have m2 : k ≠ p8 := fun e => by subst e; rw [hk] at h8; cases h8
  have m3 : k ≠ p11 := fun e => by subst e; rw [hk] at h11; cases h11
  obtain ⟨G, hGe⟩ : ∃ G, G = dgOf n x s L := ⟨_, rfl⟩
  have hG : GoodG G := by rw [hGe]; exact good_of hS
  have hGn : G.n = n := by rw [hGe]; rfl
  have hGs : G.s = s := by rw [hGe]; rfl
  have hX : ∀ i q, i < n → q < 4 → x i q = (G.X i q : Int) := fun i q hi hq => by rw [hGe]; exact sound_x hS hi hq
  have hsz := hS.size
  rw [← hGe]
  refine DC_yield (hE.Y k) hk rfl hE.c70_0a hE.c70_0b ?_
  unfold ra70_0
  simp [putAll, endV, wrN_at0, set_at0]
  obtain ⟨H0, hH0⟩ : ∃ H, H = h ++ [O.cells [.int .i64 c, .int .i64 p] 72 (some 0)] := ⟨_, rfl⟩
  have k0 : H0[k]? = some (.loop false 98 frL [44] (lcA 70 0) (lcB 70 0)) := by rw [hH0]; exact app_of hk _
  rw [← hH0]
  refine ⟨_, turn_eq k0, ?_⟩
  obtain ⟨H1, hH1⟩ : ∃ H, H = H0.set k (O.loop (!false) 98 frL [44] (lcA 70 0) (lcB 70 0)) := ⟨_, rfl⟩
  have K1 : ∀ (b : Nat) (o : O), h[b]? = some o → b ≠ k → H1[b]? = some o := fun b o hb hn => by rw [hH1]; exact set_ne (by rw [hH0]; exact app_of hb _) hn
  have L1 : H1.length = h.length + 1 := by rw [hH1, hH0]; simp
  have a9 : H1[h.length]? = some (.cells [.int .i64 c, .int .i64 p] 72 (some 0)) := by rw [hH1]; exact set_ne (by rw [hH0, app_at0]; rfl) (by omega)
  have kk1 : H1[k]? = some (.loop true 98 frL [44] (lcA 70 0) (lcB 70 0)) := by rw [hH1]; exact set_self k0
  have s1 : Sub hL H1 := by rw [hH1, hH0]; exact (hs.app _).set (by omega) _
  rw [← hH1]
  unfold rl70_0
  have hlow : min (min h.length k) k < h.length := by omega
  by_cases hp0 : p = 0
  · subst hp0
    obtain ⟨xb, xo, hxa, hxr⟩ := hx
    obtain rfl := hxa (by omega)
    have hcr : rdN H1 xb (xo + c * 5) 5 = some (crossC (x c) (s c)) := s1.rdN (hxr c hc)
    rw [rdN_def] at hcr
    simp only [crossC] at hcr
    rw [hX c 0 hc (by omega), hX c 1 hc (by omega), hX c 2 hc (by omega), hX c 3 hc (by omega)] at hcr
    have d1 := s1 _ _ hdB
    have dc := s1 _ _ hpc
    obtain ⟨H2, hH2⟩ : ∃ H, H = H1 ++ [O.cells [.int .i64 (G.X c 0), .int .i64 (G.X c 1), .int .i64 (G.X c 2), .int .i64 (G.X c 3), .int .i64 (s c)] 107 (some 0)] := ⟨_, rfl⟩
    have L2 : H2.length = H1.length + 1 := by rw [hH2]; simp
    have K2 : ∀ (b : Nat) (o : O), H1[b]? = some o → H2[b]? = some o := fun b o hb => by rw [hH2]; exact app_of hb _
    have s2 : Sub hL H2 := fun b o hb => K2 _ _ (s1 b o hb)
    have q2 : H2[H1.length]? = some (O.cells [.int .i64 (G.X c 0), .int .i64 (G.X c 1), .int .i64 (G.X c 2), .int .i64 (G.X c 3), .int .i64 (s c)] 107 (some 0)) := by rw [hH2, app_at0]; rfl
    have hXlt := hG.X c 1 (by rw [hGn]; exact hc) (by omega)
    rw [hGn] at hXlt
    have hg := generator_ hE (hl.sub s2) hsz hXlt
    rw [← hGe] at hg
    have hgq : (arN G (G.X c 1) : Int) + 1 = gen G (G.X c 1) := rfl
    rw [hgq] at hg
    have hgv := gen_le hG (by rw [hGn]; exact hc) (show 1 < 4 by omega)
    have hac := arC_le G
    rw [hGn] at hac
    have w1 : IntKind.i64.wrap (gen G (G.X c 1) * s c) = gen G (G.X c 1) * s c := by
      rcases hS.sign c hc with e | e <;> rw [e] <;> rw [w64_id] <;> omega
    have e1 : wordP G (c, 0) = [gen G (G.X c 1) * s c] := by unfold wordP; rw [if_pos rfl, hGs]
    obtain ⟨H3, hH3⟩ : ∃ H, H = H2 ++ [O.cells [.int .i64 (gen G (G.X c 1) * s c)] 3 (some 0)] := ⟨_, rfl⟩
    have L3 : H3.length = H2.length + 1 := by rw [hH3]; simp
    have K3 : ∀ (b : Nat) (o : O), H2[b]? = some o → H3[b]? = some o := fun b o hb => by rw [hH3]; exact app_of hb _
    have hov3 : OwnT H3 N ov ws.length (intsC ws) 3 1 := hov.keep fun b s' _ hb e => K3 _ _ (K2 _ _ (K1 _ _ e (by omega)))
    have hread : readSlice H3 1 1 (some ⟨H2.length, 0, none⟩) = some [.int .i64 (gen G (G.X c 1) * s c)] := by rw [hH3]; simp [readSlice, rdN_at0]
    obtain ⟨b', H4, f4, happ, hb', hown, hf1, hf2, hL4, K4⟩ := append_T (fl := min h.length k) (c := 1) (bytes := 8) hov3 hread (by simp) (by simp) (by omega) (by simp only [roomMax]; omega) (by omega)
    have r2 := K2 _ _ (K1 _ _ h8 (Ne.symm m2))
    have r7 := K2 _ _ (K1 _ _ h7 (Ne.symm m1))
    have r11 := K2 _ _ (K1 _ _ h11 (Ne.symm m3))
    have r4 := K4 _ _ (K3 _ _ r2) (.inl l8)
    have kk4 := K4 _ _ (K3 _ _ (K2 _ _ kk1)) (.inl l7)
    obtain ⟨H5, hH5⟩ : ∃ H, H = H4.set p8 (O.cells [.slice (some ⟨b', 0, none⟩) (ws.length + 1) (ws.length + 1)] 34 (some 0)) := ⟨_, rfl⟩
    have kk5 : H5[k]? = some (.loop true 98 frL [44] (lcA 70 0) (lcB 70 0)) := by rw [hH5]; exact set_ne kk4 m2
    have t7 : H5[p7]? = some (.cells [.pointer (some ⟨pl, 0, none⟩)] 155 (some 0)) := by rw [hH5]; exact set_ne (K4 _ _ (K3 _ _ r7) (.inl b7)) n1
    have t11 : H5[p11]? = some (.cells [.int .i64 sm] 3 (some 0)) := by rw [hH5]; exact set_ne (K4 _ _ (K3 _ _ r11) (.inl l11)) (Ne.symm n3)
    have t13 : H5[H1.length]? = some (O.cells [.int .i64 (G.X c 0), .int .i64 (G.X c 1), .int .i64 (G.X c 2), .int .i64 (G.X c 3), .int .i64 (s c)] 107 (some 0)) := by
      rw [hH5]
      exact set_ne (K4 _ _ (K3 _ _ q2) (.inr fun c s e => by cases e)) (by omega)
    have s5 : Sub hL H5 := fun b o hb => by
      have := (List.getElem?_eq_some_iff.1 hb).1
      rw [hH5]
      exact set_ne (K4 _ _ (K3 _ _ (s2 b o hb)) (.inl (by omega))) (by omega)
    have dc5 := s5 _ _ hpc
    obtain ⟨uv, xa', xc', ab, cb, mb, z1, z2, z3, z4, z5, hO, hk'⟩ := hl.sub s5
    rw [← hGe] at z1 z4
    unfold linkC at z1
    have hcl : G.X c 1 < (cpL G).length := by have := hO.len; rw [← hGe] at this; omega
    have hX' : (G.X c 1 : Int) < 2 * (n : Int) := by omega
    have hq : h.length + 1 = H1.length := L1.symm
    rw [e1]
    have hend : ∀ (H6 : List O) (f6 : Nat) (sm' : Int), sm' = sm + ownP G comp (c, 0) → H6[k]? = some (.loop true 98 frL [44] (lcA 70 0) (lcB 70 0)) → H6[p11]? = some (.cells [.int .i64 sm'] 3 (some 0)) → (∀ b o, H5[b]? = some o → b ≠ p11 → H6[b]? = some o) → H6.length = H5.length → base ≤ f6 → f6 ≤ h.length →
        ∃ st4, turn true k ⟨H6, f6⟩ = some st4 ∧ RndP h f base k N p8 p11 (ws ++ [gen G (G.X c 1) * s c]) (sm + ownP G comp (c, 0)) st4 := fun H6 f6 sm' hsm' u1 u2 u3 u4 u5 u6 => by
      refine ⟨_, turn_eq u1, ?_⟩
      have hlow6 : min f6 k < h.length := by omega
      refine ⟨H6.set k (.loop (!true) 98 frL [44] (lcA 70 0) (lcB 70 0)), min f (min f6 k), .slice (some ⟨b', 0, none⟩) (ws.length + 1) (ws.length + 1), by simp only [joined]; rw [if_pos hlow6], by omega, by omega, ?_, ?_, ?_, ?_, fun b o hbN hb hn1 hn2 => ?_⟩
      · refine set_ne (u3 _ _ ?_ n3) (Ne.symm m2)
        rw [hH5]; exact set_self r4
      · rw [← hsm']; exact set_ne u2 (Ne.symm m3)
      · have : OwnT H4 N (.slice (some ⟨b', 0, none⟩) (ws.length + 1) (ws.length + 1)) (ws ++ [gen G (G.X c 1) * s c]).length (intsC (ws ++ [gen G (G.X c 1) * s c])) 3 1 := by simpa [intsC] using hown
        refine this.keep fun b s' e1 e2 e3 => set_ne (u3 _ _ ?_ (by omega)) (by omega)
        rw [hH5]; exact set_ne e3 (by omega)
      · rw [List.length_set, u4, hH5, List.length_set]; omega
      · by_cases hbk : b = k
        · subst hbk
          rw [hk] at hb
          obtain rfl := Option.some.inj hb
          exact set_self u1
        · refine set_ne (u3 _ _ ?_ hn2) hbk
          rw [hH5]
          exact set_ne (K4 _ _ (K3 _ _ (K2 _ _ (K1 _ _ hb hbk))) (.inl hbN)) hn1
    have hmin : min f4 p8 ≤ h.length := by omega
    have hminA : min k H1.length = k := by omega
    by_cases hcomp : nth (cpL G) (G.X c 1) = comp
    · have e2 : ownP G comp (c, 0) = s c := by unfold ownP; rw [if_pos ⟨rfl, hcomp⟩, hGs]
      have hw2 : IntKind.i64.wrap (sm + s c) = sm + s c := by rcases hS.sign c hc with e | e <;> rw [e] <;> rw [w64_id] <;> omega
      simp [g2, g3, g7, g8, g11, rd_def, rdN_def, a9, d1, dc, hc, hcr, wrN_at0, set_at0, app_at0, ← hH2, ← L2, r2, r7, q2, hminA, DC_of hg, bit, w1, ← hH3, happ, wrN_def, r4, ← hH5, t7, t13, z1, hX', hXlt, z4, intsC_get hcl, hcomp, dc5, t11, hw2]
      exact hend _ _ (sm + s c) (by rw [e2]) (set_ne kk5 m3) (set_self t11) (fun b o hb hn => set_ne hb hn) List.length_set (by omega) (by omega)
    · have e2 : ownP G comp (c, 0) = 0 := by unfold ownP; rw [if_neg fun h => hcomp h.2]
      simp [g2, g3, g7, g8, g11, rd_def, rdN_def, a9, d1, dc, hc, hcr, wrN_at0, set_at0, app_at0, ← hH2, ← L2, r2, r7, q2, hminA, DC_of hg, bit, w1, ← hH3, happ, wrN_def, r4, ← hH5, t7, t13, z1, hX', hXlt, z4, intsC_get hcl, hcomp, dc5]
      exact hend H5 _ sm (by rw [e2, Int.add_zero]) kk5 t11 (fun b o hb _ => hb) rfl (by omega) (by omega)
  · have hpz : ¬ (p : Int) = 0 := by omega
    have e1 : wordP G (c, p) = [] := if_neg hp0
    have e2 : ownP G comp (c, p) = 0 := if_neg (fun h => hp0 h.1)
    rw [e1, e2, List.append_nil, Int.add_zero]
    simp [rd_def, a9, hpz, hp0]
    refine ⟨_, turn_eq kk1, ?_⟩
    refine ⟨H1.set k (.loop (!true) 98 frL [44] (lcA 70 0) (lcB 70 0)), min f (min (min h.length k) k), ov, by simp only [joined]; rw [if_pos hlow], by omega, by omega, ?_, ?_, ?_, ?_, fun b o hbN hb hn1 hn2 => ?_⟩
    · exact set_ne (K1 _ _ h8 (Ne.symm m2)) (Ne.symm m2)
    · exact set_ne (K1 _ _ h11 (Ne.symm m3)) (Ne.symm m3)
    · exact hov.keep fun b s' _ hb e => set_ne (K1 _ _ e (by omega)) (by omega)
    · rw [List.length_set]; omega
    · by_cases hbk : b = k
      · subst hbk
        rw [hk] at hb
        obtain rfl := Option.some.inj hb
        exact set_self kk1
      · exact set_ne (K1 _ _ hb hbk) hbk
end Go.Proofs.Ytjlkndkedknocaa
namespace Go.Proofs.Ytjlkndkedknocaa
open Go Go.Ai
set_option linter.unusedSimpArgs false
set_option linter.unusedVariables false
attribute [local instance] Classical.propDecidable
noncomputable def perA (G : Dg) (a : Nat) : Nat := if h : ∃ P, (0 < P ∧ itr (nx G) a P = a ∧ P ≤ 2 * G.n) ∧ ∀ t, 0 < t → t < P → itr (nx G) a t ≠ a then h.choose else 1
theorem perA_spec {G : Dg} (hG : GoodG G) {a : Nat} (ha : a < 2 * G.n) : (0 < perA G a ∧ itr (nx G) a (perA G a) = a ∧ perA G a ≤ 2 * G.n) ∧ ∀ t, 0 < t → t < perA G a → itr (nx G) a t ≠ a := by
  have h := (nx_perm hG).period ha
  unfold perA
  rw [dif_pos h]
  exact h.choose_spec
noncomputable def wordT (G : Dg) (a : Nat) : Nat → List Int
  | 0 => []
  | i + 1 => wordT G a i ++ wordP G (finT G (itr (nx G) a i))
noncomputable def ownT (G : Dg) (k : Int) (a : Nat) : Nat → Int
  | 0 => 0
  | i + 1 => ownT G k a i + ownP G k (finT G (itr (nx G) a i))
theorem wordT_len (G : Dg) (a : Nat) : ∀ i, (wordT G a i).length ≤ i := by
  intro i
  induction i with
  | zero => exact Nat.le_refl _
  | succ i ih =>
    simp only [wordT, List.length_append, wordP]
    split
    · simp; omega
    · simp; omega
theorem ownT_le {G : Dg} (hG : GoodG G) {k : Int} {a : Nat} (ha : a < 2 * G.n) : ∀ i : Nat, -(i : Int) ≤ ownT G k a i ∧ ownT G k a i ≤ i := by
  intro i
  induction i with
  | zero => simp [ownT]
  | succ i ih =>
    obtain ⟨t0, t1, t2, t3, _⟩ := hG.T _ ((nx_perm hG).itr_lt ha i)
    have hs := hG.sign _ t2
    simp only [ownT, ownP]
    have e : (finT G (itr (nx G) a i)).1 = G.T (itr (nx G) a i) 2 := rfl
    rw [e]
    split
    · rcases hs with h | h <;> rw [h] <;> omega
    · omega
theorem joined_min {H h : List O} {f g : Nat} (h1 : f ≤ g) (h2 : g < H.length) : joined ⟨H, f⟩ ⟨h, g⟩ = ⟨h, f⟩ := by
  simp only [joined]
  rw [if_pos h2, Nat.min_eq_left h1]
variable {E : Env} (hE : OE E)
include hE
theorem rangeL_ {h hL : List O} {f0 pl n dB pc p7 p8 p11 pf pe pL eb xc a0 : Nat} {xa : Option Addr} {x : Nat → Nat → Int} {s : Nat → Int} {L : Int} {fr : Fr} {comp : Int} {ov : Value} {Q : Post}
    (g43 : get fr 43 = .func (.func 212) #[] #[.pointer (some ⟨pf, 0, none⟩), .pointer (some ⟨pe, 0, none⟩), .pointer (some ⟨pL, 0, none⟩)])
    (g2 : get fr 2 = .pointer (some ⟨dB, 0, none⟩)) (g3 : get fr 3 = .pointer (some ⟨pc, 0, none⟩)) (g7 : get fr 7 = .pointer (some ⟨p7, 0, none⟩)) (g8 : get fr 8 = .pointer (some ⟨p8, 0, none⟩)) (g11 : get fr 11 = .pointer (some ⟨p11, 0, none⟩))
    (hl : LnkP hL pl n x s L) (hS : Snd n x s L) (hs : Sub hL h) (hdB : hL[dB]? = some (.cells [.slice xa n xc, .int .i64 L] 24 (some 0))) (hx : CrossP hL xa n x s) (hpc : hL[pc]? = some (.cells [.int .i64 comp] 3 (some 0)))
    (h7 : h[p7]? = some (.cells [.pointer (some ⟨pl, 0, none⟩)] 155 (some 0))) (h8 : h[p8]? = some (.cells [emptyS] 34 (some 0))) (h11 : h[p11]? = some (.cells [.int .i64 0] 3 (some 0)))
    (ha0 : a0 < 2 * n) (hf : h[pf]? = some (.cells [.int .i64 a0] 3 (some 0))) (he : h[pe]? = some (.cells [.slice (some ⟨eb, 0, none⟩) (2 * n) (2 * n)] 215 (some 0))) (heb : h[eb]? = some (.cells (cellsL (finL (dgOf n x s L))) 72 (some 0))) (hLp : h[pL]? = some (.cells [.pointer (some ⟨pl, 0, none⟩)] 155 (some 0)))
    (l0 : f0 ≤ hL.length) (l8 : hL.length ≤ p8) (l11 : hL.length ≤ p11) (n1 : p7 ≠ p8) (n2 : p7 ≠ p11) (n3 : p8 ≠ p11) (n4 : pf ≠ p11)
    (hQ : ∀ h' ov', (∀ (b : Nat) (o : O), h[b]? = some o → b ≠ p8 → b ≠ p11 → h'[b]? = some o) → h'[p8]? = some (.cells [ov'] 34 (some 0)) → h'[p11]? = some (.cells [.int .i64 (ownT (dgOf n x s L) comp a0 (perA (dgOf n x s L) a0))] 3 (some 0)) →
      OwnT h' h.length ov' (wordT (dgOf n x s L) a0 (perA (dgOf n x s L) a0)).length (intsC (wordT (dgOf n x s L) a0 (perA (dgOf n x s L) a0))) 3 1 → Q .normal fr ⟨h', f0⟩) :
    DW E (.rangeF (.tmp 43) [44] 98 (lcA 70 0) (lcB 70 0)) fr ⟨h, f0⟩ Q := by
  obtain ⟨G, hGe⟩ : ∃ G, G = dgOf n x s L := ⟨_, rfl⟩
  have hG : GoodG G := by rw [hGe]; exact good_of hS
  have hGn : G.n = n := by rw [hGe]; rfl
  have hGs : G.s = s := by rw [hGe]; rfl
  have hsz := hS.size
  rw [← hGe] at heb hQ
  have haG : a0 < 2 * G.n := by rw [hGn]; exact ha0
  obtain ⟨⟨pm, pend, ple⟩, pmid⟩ := perA_spec hG haG
  have lp8 := (List.getElem?_eq_some_iff.1 h8).1
  have lp11 := (List.getElem?_eq_some_iff.1 h11).1
  have lp7 := (List.getElem?_eq_some_iff.1 h7).1
  have lpf := (List.getElem?_eq_some_iff.1 hf).1
  have lpe := (List.getElem?_eq_some_iff.1 he).1
  have leb := (List.getElem?_eq_some_iff.1 heb).1
  have lpL := (List.getElem?_eq_some_iff.1 hLp).1
  have hsl := hs.len
  refine DW_rangeF (f := 212) (vs := [tok h.length, .pointer (some ⟨pf, 0, none⟩), .pointer (some ⟨pe, 0, none⟩), .pointer (some ⟨pL, 0, none⟩)]) (by simp [g43]) (by decide) ?_
  obtain ⟨hK, hhK⟩ : ∃ H, H = h ++ [O.loop false 98 fr [44] (lcA 70 0) (lcB 70 0)] := ⟨_, rfl⟩
  have lK : hK.length = h.length + 1 := by rw [hhK]; simp
  have KK : ∀ (b : Nat) (o : O), h[b]? = some o → hK[b]? = some o := fun b o hb => by rw [hhK]; exact app_of hb _
  have kk : hK[h.length]? = some (.loop false 98 fr [44] (lcA 70 0) (lcB 70 0)) := by rw [hhK, app_at0]; rfl
  rw [← hhK, ← lK]
  have hlsub := fun (h' : List O) (hk : Sub hL h') => hl.sub hk
  have key := walk1_ hE hG (pl := pl) (k := h.length) (pf := pf) (pe := pe) (pL := pL) (eb := eb) (N := hK.length) (m := perA G a0) haG pm pend pmid
    (I := fun i h' f' => hL.length ≤ f' ∧ (0 < i → f' < hK.length) ∧ hK.length ≤ h'.length ∧ (∀ (b : Nat) (o : O), hK[b]? = some o → b ≠ p8 → b ≠ p11 → h'[b]? = some o) ∧
      ∃ ov, h'[p8]? = some (.cells [ov] 34 (some 0)) ∧ h'[p11]? = some (.cells [.int .i64 (ownT G comp a0 i)] 3 (some 0)) ∧ OwnT h' hK.length ov (wordT G a0 i).length (intsC (wordT G a0 i)) 3 1)
    ?_ ?_ (h := hK) ?_ rfl
  · refine key.imp ?_
    rintro o ⟨h', f'⟩ ⟨rfl, i1, i2, i3, i4, ov, i5, i6, i7⟩
    simp only at i1 i2 i3 i4 i5 i6 i7
    have hf := i2 pm
    refine ⟨⟨_, rfl⟩, ⟨h'.set h.length .dead, f0⟩, ?_, ?_⟩
    · have hfm : min f0 h.length = f0 := by omega
      rw [joined_min (f := f0) (H := hK) (h := h') (by omega) hf, over_eq (i4 _ _ kk (by omega) (by omega)), hfm]
    · refine hQ (h'.set h.length .dead) ov (fun b o hb h1 h2 => ?_) ?_ ?_ ?_
      · have := (List.getElem?_eq_some_iff.1 hb).1
        exact set_ne (i4 _ _ (KK _ _ hb) h1 h2) (by omega)
      · exact set_ne i5 (by omega)
      · exact set_ne i6 (by omega)
      · have : OwnT h' h.length ov (wordT G a0 (perA G a0)).length (intsC (wordT G a0 (perA G a0))) 3 1 := by
          rcases i7 with h1 | ⟨h1, h2 | ⟨b, s', h3, h4, h5, h6⟩⟩
          · exact .inl h1
          · exact .inr ⟨h1, .inl h2⟩
          · exact .inr ⟨h1, .inr ⟨b, s', h3, by omega, h5, h6⟩⟩
        rcases i7 with h1 | ⟨h1, h2 | ⟨b, s', h3, h4, h5, h6⟩⟩
        · exact .inl h1
        · exact .inr ⟨h1, .inl h2⟩
        · exact .inr ⟨h1, .inr ⟨b, s', h3, by omega, set_ne h5 (by omega), h6⟩⟩
  · rintro i h' f' ⟨i1, i2, i3, i4, _⟩
    have hsub' : Sub hL h' := fun b o hb => by
      have := (List.getElem?_eq_some_iff.1 hb).1
      exact i4 _ _ (KK _ _ (hs b o hb)) (by omega) (by omega)
    have hp8n : ∀ b c el, h[b]? = some (.cells c el (some 0)) → el ≠ 34 → b ≠ p8 := fun b c el hb hne e => by
      subst e; rw [hb] at h8; simp at h8; exact hne h8.2
    have hp11n : ∀ b c el, h[b]? = some (.cells c el (some 0)) → el ≠ 3 → b ≠ p11 := fun b c el hb hne e => by
      subst e; rw [hb] at h11; simp at h11; exact hne h11.2
    refine ⟨i4 _ _ (KK _ _ hf) (hp8n _ _ _ hf (by decide)) n4, ?_, ?_, ?_, ?_, i2⟩
    · rw [hGn]; exact i4 _ _ (KK _ _ he) (hp8n _ _ _ he (by decide)) (hp11n _ _ _ he (by decide))
    · exact i4 _ _ (KK _ _ heb) (hp8n _ _ _ heb (by decide)) (hp11n _ _ _ heb (by decide))
    · exact i4 _ _ (KK _ _ hLp) (hp8n _ _ _ hLp (by decide)) (hp11n _ _ _ hLp (by decide))
    · obtain ⟨uv, xa', xc', ab, cb, mb, z1, z2, z3, z4, z5, hO, hk'⟩ := hl.sub hsub'
      refine ⟨uv, xa', xc', L, _, _, _, _, _, by rw [hGn]; exact z1, ?_⟩
      rw [hGn, hGs]
      obtain ⟨xb, xo, y1, y2⟩ := z2
      refine ⟨xb, xo, y1, fun i hi => ?_⟩
      rw [y2 i hi, crossC_toNat hS hi, hGe]
      rfl
  · rintro i h' f' him ⟨i1, i2, i3, i4, ov, i5, i6, i7⟩
    have hsub' : Sub hL h' := fun b o hb => by
      have := (List.getElem?_eq_some_iff.1 hb).1
      exact i4 _ _ (KK _ _ (hs b o hb)) (by omega) (by omega)
    obtain ⟨t0, t1, t2, t3, _⟩ := hG.T _ ((nx_perm hG).itr_lt haG i)
    have hwl := wordT_len G a0 i
    have hol := ownT_le hG (k := comp) haG i
    have hround := roundL_ hE (h := h') (hL := hL) (f := f') (k := h.length) (N := hK.length) (base := hL.length) (i := i) (c := G.T (itr (nx G) a0 i) 2) (p := G.T (itr (nx G) a0 i) 3) (ws := wordT G a0 i) (sm := ownT G comp a0 i)
      (i4 _ _ kk (by omega) (by omega)) g2 g3 g7 g8 g11 hl hS hsub' hdB hx hpc (i4 _ _ (KK _ _ h7) n1 n2) i5 i6 i7 i3 (by omega) (by omega) (by rw [← hGn]; exact t2) t3 (Nat.le_refl _) (by omega) l8 l11 (by omega) i1 (by omega) (by omega) (by omega) n1 n2 n3
    rw [← hGe] at hround
    refine hround.imp ?_
    rintro o st' ⟨rfl, h2, f2, ov2, hj, j1, j2, j3, j4, j5, j6, j7⟩
    rw [hj]
    refine ⟨rfl, j1, fun _ => by simp only; omega, by simp only; omega, fun b o hb h1 h2 => ?_, ov2, j3, j4, j5⟩
    exact j7 b o (List.getElem?_eq_some_iff.1 hb).1 (i4 b o hb h1 h2) h1 h2
  · exact ⟨by omega, fun h => absurd h (Nat.lt_irrefl _), Nat.le_refl _, fun b o hb _ _ => hb, emptyS, KK _ _ h8, KK _ _ h11, .inl ⟨rfl, rfl, rfl⟩⟩
end Go.Proofs.Ytjlkndkedknocaa
namespace Go.Ai
set_option linter.unusedSimpArgs false
set_option linter.unusedVariables false
def SmallL (ws : List Int) : Prop := ∀ y ∈ ws, -1000 ≤ y ∧ y ≤ 1000
theorem SmallL.nth {ws : List Int} (h : SmallL ws) (i : Nat) : -1000 ≤ nth ws i ∧ nth ws i ≤ 1000 := by
  by_cases hi : i < ws.length
  · exact h _ (nth_mem hi)
  · rw [nth_ge (by omega)]; omega
theorem SmallL.app {a b : List Int} (h : SmallL a) (k : SmallL b) : SmallL (a ++ b) := fun y hy => by
  rcases List.mem_append.1 hy with h1 | h1
  · exact h y h1
  · exact k y h1
theorem SmallL.rep {n : Nat} {m : Int} (h : -1000 ≤ m ∧ m ≤ 1000) : SmallL (List.replicate n m) := fun y hy => by
  rw [List.mem_replicate] at hy
  rw [hy.2]; exact h
theorem OwnT.ints {h : List O} {lo : Nat} {v : Value} {ws : List Int} {el : TypeId} (ho : OwnT h lo v ws.length (intsC ws) el 1) (hs : SmallL ws) (hl : ws.length < 2 ^ 62) : Ints h v ws := by
  have h64 : ∀ i, I64 (Ai.nth ws i) := fun i => by have := hs.nth i; constructor <;> omega
  rcases ho with ⟨rfl, h1, h2⟩ | ho
  · have : ws = [] := List.length_eq_zero_iff.1 h1
    subst this
    exact ⟨_, 0, 0, 0, rfl, fun h => absurd h (by simp), fun i hi => absurd hi (by simp), h64, hl⟩
  · rcases ho.2 with ⟨rfl, h1⟩ | ⟨b, s, rfl, h1, h2, _⟩
    · have : ws = [] := List.length_eq_zero_iff.1 h1
      subst this
      exact Ints.nil
    · exact ⟨_, b, 0, _, rfl, fun _ => rfl, fun i hi => by rw [rd_def, h2, Nat.zero_add]; exact intsC_get hi, h64, hl⟩
end Go.Ai
namespace Go.Proofs.Ytjlkndkedknocaa
open Go Go.Ai
set_option linter.unusedSimpArgs false
set_option linter.unusedVariables false
attribute [local instance] Classical.propDecidable
theorem wordT_small {G : Dg} (hG : GoodG G) {a : Nat} (ha : a < 2 * G.n) : ∀ i, SmallL (wordT G a i) := by
  intro i
  induction i with
  | zero => intro y hy; simp [wordT] at hy
  | succ i ih =>
    refine ih.app fun y hy => ?_
    unfold wordP at hy
    split at hy
    · simp at hy
      obtain ⟨t0, t1, t2, t3, _⟩ := hG.T _ ((nx_perm hG).itr_lt ha i)
      have hg := gen_le hG t2 (show 1 < 4 by omega)
      have hc := arC_le G
      have hz := hG.size
      have e : (finT G (itr (nx G) a i)).1 = G.T (itr (nx G) a i) 2 := rfl
      rw [e] at hy
      rcases hG.sign _ t2 with h | h <;> rw [h] at hy <;> omega
    · simp at hy
noncomputable def lonS (G : Dg) (k : Int) : Int := ownT G k (fstA G k).toNat (perA G (fstA G k).toNat)
noncomputable def lonD (G : Dg) (k : Int) : List Int := if 0 ≤ fstA G k then wordT G (fstA G k).toNat (perA G (fstA G k).toNat) ++ List.replicate (lonS G k).toNat (-(merD G k)) ++ List.replicate (-(lonS G k)).toNat (merD G k) else []
def LonP (h0 : List O) (ws : List Int) (v : Value) (st' : St) : Prop := Sub h0 st'.h ∧ h0.length ≤ st'.fl ∧ Ints st'.h v ws
structure LwI (h0 h : List O) (lo p8 p11 : Nat) (sm : Int) (ov : Value) (ws : List Int) : Prop where
  sub : Sub h0 h
  b8 : AtB h p8 (.cells [ov] 34 (some 0))
  b11 : AtB h p11 (.cells [.int .i64 sm] 3 (some 0))
  own : OwnT h lo ov ws.length (intsC ws) 3 1
  small : SmallL ws
  lo_ : lo ≤ h.length
theorem LwI.add {h0 h : List O} {lo p8 p11 : Nat} {sm sm' m : Int} {ov : Value} {ws : List Int} (hI : LwI h0 h lo p8 p11 sm ov ws) (hm : -1000 ≤ m ∧ m ≤ 1000) (l0 : h0.length ≤ p8) (l1 : h0.length ≤ p11) (l8 : p8 < lo) (l11 : p11 < lo) (hne : p8 ≠ p11) (hw : ws.length ≤ 10000) :
    ∃ b' H4, appendV 3 1 8 ov (.slice (some ⟨h.length, 0, none⟩) 1 1) ⟨h ++ [.cells [.int .i64 m] 3 (some 0)], h0.length⟩ = some (.slice (some ⟨b', 0, none⟩) (ws.length + 1) (ws.length + 1), ⟨H4, h0.length⟩) ∧
      H4[p8]? = some (.cells [ov] 34 (some 0)) ∧ H4[p11]? = some (.cells [.int .i64 sm] 3 (some 0)) ∧
      LwI h0 ((H4.set p8 (.cells [.slice (some ⟨b', 0, none⟩) (ws.length + 1) (ws.length + 1)] 34 (some 0))).set p11 (.cells [.int .i64 sm'] 3 (some 0))) lo p8 p11 sm' (.slice (some ⟨b', 0, none⟩) (ws.length + 1) (ws.length + 1)) (ws ++ [m]) := by
  have hread : readSlice (h ++ [.cells [.int .i64 m] 3 (some 0)]) 1 1 (some ⟨h.length, 0, none⟩) = some [.int .i64 m] := by simp [readSlice, rdN_at0]
  have hlo := hI.lo_
  obtain ⟨b', H4, f4, happ, hb', hown, hf1, hf2, hL4, K4⟩ := append_T (fl := h0.length) (c := 1) (bytes := 8) (hI.own.keep (h' := h ++ [.cells [.int .i64 m] 3 (some 0)]) fun b s _ _ e => app_of e _) hread (by simp) (by simp) (by simp; omega) (by simp only [roomMax]; omega) (by omega)
  obtain rfl : f4 = h0.length := by omega
  have k8 := K4 _ _ (app_of hI.b8 _) (.inl l8)
  have k11 := K4 _ _ (app_of hI.b11 _) (.inl l11)
  refine ⟨b', H4, happ, k8, k11, fun b o hb => ?_, set_ne (set_self k8) hne, set_self (set_ne k11 (Ne.symm hne)), ?_, hI.small.app (fun y hy => by simp at hy; rw [hy]; exact hm), by simp at hL4 ⊢; omega⟩
  · have := (List.getElem?_eq_some_iff.1 hb).1
    exact set_ne (set_ne (K4 _ _ (app_of (hI.sub b o hb) _) (.inl (by omega))) (by omega)) (by omega)
  · have : OwnT H4 lo (.slice (some ⟨b', 0, none⟩) (ws.length + 1) (ws.length + 1)) (ws ++ [m]).length (intsC (ws ++ [m])) 3 1 := by simpa [intsC] using hown
    exact this.keep fun b s e1 e2 e3 => set_ne (set_ne e3 (by omega)) (by omega)
variable {E : Env} (hE : OE E)
include hE
theorem longitude_ (hWk : ∀ (h : List O) (pl n : Nat) (x : Nat → Nat → Int) (s : Nat → Int) (L i : Int), LnkP h pl n x s L → Snd n x s L → DR E 148 [.pointer (some ⟨pl, 0, none⟩), .int .i64 i] ⟨h, h.length⟩ (.ret (walkV h)) ⟨walkM h pl i (dgOf n x s L), h.length⟩)
    {h0 : List O} {a : Option Addr} {n c : Nat} {x : Nat → Nat → Int} {s : Nat → Int} {L : Int} (hx : CrossP h0 a n x s) (k : Int) :
    DC E 70 [dV a n c L, .int .i64 k] ⟨h0, h0.length⟩ fun o st' => (kindD n x s L ≠ 0 ∧ o = .ret (.tuple #[.slice none 0 0, .int .i64 (kindD n x s L)]) ∧ st' = ⟨h0, h0.length⟩) ∨
      (kindD n x s L = 0 ∧ ¬ (0 ≤ k ∧ k < cpK (dgOf n x s L) + L) ∧ o = .ret (.tuple #[.slice none 0 0, .int .i64 1]) ∧ st' = ⟨h0, h0.length⟩) ∨
      (kindD n x s L = 0 ∧ (0 ≤ k ∧ k < cpK (dgOf n x s L) + L) ∧ ∃ v, o = .ret (.tuple #[v, .int .i64 0]) ∧ LonP h0 (lonD (dgOf n x s L) k) v st') := by
  refine hE.fnC (body := rb70) rfl ?_
  unfold rb70
  have hx1 : CrossP (h0 ++ [O.cells [.slice a n c, .int .i64 L] 24 (some 0), O.cells [.int .i64 k] 3 (some 0)]) a n x s := hx.ext (Ext.snoc _ _)
  have h1 := check_ hE (c := c) (L := L) hx1
  simp [dV] at h1
  by_cases hk : kindD n x s L = 0
  · have h2 := newLinkC_ hE (c := c) hx1 hk
    simp [dV] at h2
    have hS := (kind_zero hk).1
    simp [dV, rdN_at0, joined_fl, DC_of h1, hk, List.append_assoc]
    refine h2.imp ?_
    rintro o ⟨h3, f3⟩ ⟨pl, rfl, hp, hf, hs, hl⟩
    simp only at hf hs hl
    have hs0 : Sub h0 h3 := ((Sub.refl h0).app _).trans hs
    have hd0 : h3[h0.length]? = some (O.cells [.slice a n c, .int .i64 L] 24 (some 0)) := hs _ _ (by rw [app_at0]; rfl)
    have hd1 : h3[h0.length + 1]? = some (O.cells [.int .i64 k] 3 (some 0)) := hs _ _ (by rw [app_at]; rfl)
    have hlen := hs.len
    simp at hlen
    have hl' := hl
    obtain ⟨uv, xa', xc', ab, cb, mb, z1, z2, z3, z4, z5, hO, hk'⟩ := hl'
    unfold linkC at z1
    have hd0' : ∀ l, (h3 ++ l)[h0.length]? = _ := fun l => app_of hd0 l
    have hd1' : ∀ l, (h3 ++ l)[h0.length + 1]? = _ := fun l => app_of hd1 l
    have z1' : ∀ l, (h3 ++ l)[pl]? = _ := fun l => app_of z1 l
    have hmin : min h0.length h3.length = h0.length := by omega
    by_cases c1 : 0 ≤ k ∧ k < cpK (dgOf n x s L) + L
    · have c1' : ¬ k < 0 := by omega
      have c2' : ¬ (cpK (dgOf n x s L) : Int) + L ≤ k := by omega
      have b2 : one1 emptyS = true := rfl
      have b3 : emptyS.cells = #[emptyS] := rfl
      have hmin2 : min h0.length (h3.length + 1) = h0.length := by omega
      have hmin3 : min h0.length (h3.length + 2) = h0.length := by omega
      obtain ⟨G, hGe⟩ : ∃ G, G = dgOf n x s L := ⟨_, rfl⟩
      have hG : GoodG G := by rw [hGe]; exact good_of hS
      have hGn : G.n = n := by rw [hGe]; rfl
      have hfi := first_ hE (hl.sub ((Sub.refl h3).app [O.cells [.pointer (some ⟨pl, 0, none⟩)] 155 (some 0), .cells [emptyS] 34 (some 0)])) hS.size hS.loops c1
      simp at hfi
      rw [← hGe] at hfi ⊢
      have hfl := fstA_lt (G := G) (k := k)
      rw [hGn] at hfl
      simp [joined_fl, hf, wrN_at0, set_at0, hmin, rd_def, rd_at0, hd0', hd1', app_at0, z1', c1, c1', c2', wrN_at, set_at, b2, b3, hmin2, app_at, DC_of hfi, List.append_assoc]
      by_cases h0' : 0 ≤ fstA G k
      · have h0'' : ¬ fstA G k < 0 := by omega
        obtain ⟨a0, ha0⟩ : ∃ a0 : Nat, fstA G k = a0 := ⟨(fstA G k).toNat, by omega⟩
        have ha0' : (fstA G k).toNat = a0 := by omega
        have ha0n : a0 < 2 * n := by omega
        have ha0z : ¬ ((a0 : Int) < 0) := by omega
        obtain ⟨H, hH⟩ : ∃ H, H = h3 ++ [O.cells [.pointer (some ⟨pl, 0, none⟩)] 155 (some 0), .cells [emptyS] 34 (some 0), .cells [.int .i64 0] 3 (some 0)] := ⟨_, rfl⟩
        have hlH : H.length = h3.length + 3 := by rw [hH]; simp
        have hsH : Sub h3 H := by rw [hH]; exact (Sub.refl _).app _
        have hwk := hWk H pl n x s L a0 (hl.sub hsH) hS
        have q7 : H[h3.length]? = some (.cells [.pointer (some ⟨pl, 0, none⟩)] 155 (some 0)) := by rw [hH, app_at0]; rfl
        have q8 : H[h3.length + 1]? = some (.cells [emptyS] 34 (some 0)) := by rw [hH, app_at]; rfl
        have q11 : H[h3.length + 2]? = some (.cells [.int .i64 0] 3 (some 0)) := by rw [hH, app_at]; rfl
        have hwr : wrN H (h3.length + 2) 0 [Value.int .i64 0] = some H := by
          rw [wrN_def, q11]
          simp [set_same q11]
        have hrd7 : rd H h3.length 0 = some (.pointer (some ⟨pl, 0, none⟩)) := by rw [rd_def, q7]; rfl
        simp [h0', h0'', ha0z, hwr, hrd7, wrN_at, set_at, app_at, app_at0, hmin3, ha0, ← hH, DC_of hwk, q7]
        obtain ⟨M, hM⟩ : ∃ M, M = walkM H pl a0 (dgOf n x s L) := ⟨_, rfl⟩
        have hsM : Sub H M := by rw [hM]; unfold walkM; rw [List.append_assoc]; exact (Sub.refl _).app _
        have hlM : H.length + 4 < M.length := by rw [hM]; simp [walkM]; omega
        have m0 : M[H.length]? = some (.cells [.pointer (some ⟨pl, 0, none⟩)] 155 (some 0)) := by rw [hM]; unfold walkM; rw [List.append_assoc, app_at0]; rfl
        have m1 : M[H.length + 1]? = some (.cells [.int .i64 a0] 3 (some 0)) := by rw [hM]; unfold walkM; rw [List.append_assoc, app_at]; rfl
        have m2 : M[H.length + 2]? = some (.cells (cellsL (finL (dgOf n x s L))) 72 (some 0)) := by rw [hM]; unfold walkM; rw [List.append_assoc, app_at]; rfl
        have m3 : M[H.length + 3]? = some (.cells [.slice (some ⟨H.length + 2, 0, none⟩) (2 * n) (2 * n)] 215 (some 0)) := by rw [hM]; unfold walkM; rw [List.append_assoc, app_at]; rfl
        rw [← hM]
        refine rangeL_ hE (hL := h3) (pl := pl) (n := n) (dB := h0.length) (pc := h0.length + 1) (p7 := h3.length) (p8 := h3.length + 1) (p11 := h3.length + 2) (pf := H.length + 1) (pe := H.length + 3) (pL := H.length) (eb := H.length + 2) (a0 := a0) (comp := k) (ov := emptyS)
          (by simp [walkV]) (by simp) (by simp) (by simp) (by simp) (by simp) hl hS (hsH.trans hsM) hd0 (hx1.sub hs) hd1 (hsM _ _ q7) (hsM _ _ q8) (hsM _ _ q11) ha0n m1 m3 m2 m0 (by omega) (by omega) (by omega) (by omega) (by omega) (by omega) (by omega) ?_
        intro h' ov' hkeep r8 r11 hown
        rw [← hGe] at hown r11
        have hS0 : lonS G k = ownT G k a0 (perA G a0) := by unfold lonS; rw [ha0']
        have haG : a0 < 2 * G.n := by rw [hGn]; exact ha0n
        have hmer : merD G k = arN G a0 + 1 := by unfold merD; rw [if_pos h0', ha0']
        have hsz := hS.size
        have hml := arN_lt haG
        have hac := arC_le G
        rw [hGn] at hac
        have hper := (perA_spec hG haG).1.2.2
        rw [hGn] at hper
        have hSb := ownT_le hG (k := k) haG (perA G a0)
        rw [← hS0] at hSb r11
        have hmb : -1000 ≤ merD G k ∧ merD G k ≤ 1000 := by rw [hmer]; omega
        obtain ⟨m, hme⟩ : ∃ m, m = merD G k := ⟨_, rfl⟩
        obtain ⟨S, hSe⟩ : ∃ S, S = lonS G k := ⟨_, rfl⟩
        rw [← hSe] at hSb r11
        rw [← hme] at hmb ⊢
        have hsub0 : Sub h0 h' := fun b o hb => by
          have := (List.getElem?_eq_some_iff.1 hb).1
          exact hkeep b o (hsM _ _ (hsH _ _ (hs0 b o hb))) (by omega) (by omega)
        have hwl := wordT_len G a0 (perA G a0)
        obtain ⟨W, hW⟩ : ∃ W, W = wordT G a0 (perA G a0) := ⟨_, rfl⟩
        have hWs : SmallL W := by rw [hW]; exact wordT_small hG haG _
        rw [← hW] at hown hwl
        have hlon : lonD G k = W ++ List.replicate S.toNat (-m) ++ List.replicate (-S).toNat m := by
          unfold lonD; rw [if_pos h0', ha0', ← hW, ← hSe, ← hme]
        have hMl : M.length ≤ h'.length := by
          have hk2 : Sub (M.take (h3.length + 1)) h' := fun b o hb => by
            have hbl := (List.getElem?_eq_some_iff.1 hb).1
            rw [List.getElem?_take] at hb
            split at hb
            · exact hkeep b o hb (by omega) (by omega)
            · cases hb
          apply Classical.byContradiction
          intro hcon
          have hlast : M[M.length - 1]? = some M[M.length - 1] := List.getElem?_eq_getElem (by omega)
          have := (List.getElem?_eq_some_iff.1 (hkeep _ _ hlast (by omega) (by omega))).1
          omega
        have hI0 : LwI h0 h' M.length (h3.length + 1) (h3.length + 2) S ov' W := ⟨hsub0, r8, r11, hown, hWs, hMl⟩
        have l8 : h3.length + 1 < M.length := by omega
        have l11 : h3.length + 2 < M.length := by omega
        have hmn1 : min h0.length (h3.length + 1) = h0.length := by omega
        have hmn2 : min h0.length (h3.length + 2) = h0.length := by omega
        simp
        refine DW_loop (fun kk fr st => ∃ (sm : Int) (h : List O) (ov : Value) (ws : List Int), kk = sm.toNat ∧ st = ⟨h, h0.length⟩ ∧ LwI h0 h M.length (h3.length + 1) (h3.length + 2) sm ov ws ∧ sm ≤ 400 ∧ (S < 0 → sm = S) ∧ (0 ≤ S → 0 ≤ sm) ∧ ws.length + sm.toNat ≤ 1000 ∧ ws ++ List.replicate sm.toNat (-m) = W ++ List.replicate S.toNat (-m) ∧
          get fr 8 = .pointer (some ⟨h3.length + 1, 0, none⟩) ∧ get fr 10 = .int .i64 m ∧ get fr 11 = .pointer (some ⟨h3.length + 2, 0, none⟩)) ?_ (k := S.toNat) ?_
        · rintro kk fr st ⟨sm, h, ov, ws, rfl, rfl, hI, hs4, hs1, hs2, hwsl, heq, g8, g10, g11⟩
          have r8 := hI.b8
          have r11 := hI.b11
          unfold AtB at r8 r11
          by_cases hpos : 0 < sm
          · have hwn : IntKind.i64.wrap (-m) = -m := by rw [w64_id] <;> omega
            have hws : IntKind.i64.wrap (sm - 1) = sm - 1 := by rw [w64_id] <;> omega
            obtain ⟨b', H4, happ, k8, k11, hI4⟩ := hI.add (m := -m) (sm' := sm - 1) (by omega) (by omega) (by omega) l8 l11 (by omega) (by omega)
            have k11' : ∀ o, (H4.set (h3.length + 1) o)[h3.length + 2]? = some (.cells [.int .i64 sm] 3 (some 0)) := fun o => set_ne k11 (by omega)
            simp [g8, g10, g11, rd_def, r8, r11, hpos, hwn, happ, wrN_def, k8, k11', hws, hmn1, hmn2, -List.length_append]
            refine ⟨(sm - 1).toNat, by omega, sm - 1, rfl, _, ws ++ [-m], hI4, by omega, by omega, by omega, by simp; omega, ?_⟩
            rw [← heq, List.append_assoc]
            congr 1
            rw [show sm.toNat = (sm - 1).toNat + 1 by omega]
            rfl
          · simp [g8, g10, g11, rd_def, r8, r11, hpos]
            have hsz0 : sm.toNat = 0 := by omega
            rw [hsz0] at heq
            simp at heq
            refine DW_loop (fun kk fr st => ∃ (sm : Int) (h : List O) (ov : Value) (ws : List Int), kk = (-sm).toNat ∧ st = ⟨h, h0.length⟩ ∧ LwI h0 h M.length (h3.length + 1) (h3.length + 2) sm ov ws ∧ -400 ≤ sm ∧ sm ≤ 0 ∧ ws.length + (-sm).toNat ≤ 2000 ∧ ws ++ List.replicate (-sm).toNat m = W ++ List.replicate S.toNat (-m) ++ List.replicate (-S).toNat m ∧
              get fr 8 = .pointer (some ⟨h3.length + 1, 0, none⟩) ∧ get fr 10 = .int .i64 m ∧ get fr 11 = .pointer (some ⟨h3.length + 2, 0, none⟩)) ?_ (k := (-sm).toNat) ?_
            · clear hI hs4 hs1 hs2 hwsl heq g8 g10 g11 r8 r11 hpos hsz0
              clear sm h ov ws
              rintro kk fr st ⟨sm, h, ov, ws, rfl, rfl, hI, hs4, hs1, hwsl, heq, g8, g10, g11⟩
              have r8 := hI.b8
              have r11 := hI.b11
              unfold AtB at r8 r11
              by_cases hneg : sm < 0
              · have hws : IntKind.i64.wrap (sm + 1) = sm + 1 := by rw [w64_id] <;> omega
                obtain ⟨b', H4, happ, k8, k11, hI4⟩ := hI.add (m := m) (sm' := sm + 1) (by omega) (by omega) (by omega) l8 l11 (by omega) (by omega)
                have k11' : ∀ o, (H4.set (h3.length + 1) o)[h3.length + 2]? = some (.cells [.int .i64 sm] 3 (some 0)) := fun o => set_ne k11 (by omega)
                simp [g8, g10, g11, rd_def, r8, r11, hneg, happ, wrN_def, k8, k11', hws, hmn1, hmn2, -List.length_append]
                refine ⟨(-(sm + 1)).toNat, by omega, sm + 1, rfl, _, ws ++ [m], hI4, by omega, by omega, by simp; omega, ?_⟩
                rw [← List.append_assoc, ← heq, List.append_assoc]
                congr 1
                rw [show (-sm).toNat = (-(sm + 1)).toNat + 1 by omega]
                rfl
              · have hsz0 : (-sm).toNat = 0 := by omega
                rw [hsz0] at heq
                simp at heq
                simp [g8, g10, g11, rd_def, r8, r11, hneg, endK_ret]
                unfold pairQ back
                rw [hlon, List.append_assoc, ← heq]
                have hints := hI.own.ints hI.small (by omega)
                split
                · rename_i hc
                  have hflv : flat ov = true := by
                    obtain ⟨va, hva, _⟩ := hI.own.look
                    rw [hva] at hc ⊢
                    simp [Out.scalar, scalar, flat1] at hc
                    first | exact hc.1 | exact hc
                  exact .inr ⟨by rw [hGe]; exact c1.2, ov, rfl, Sub.refl _, Nat.le_refl _, hints.flat hflv⟩
                · exact .inr ⟨by rw [hGe]; exact c1.2, ov, rfl, hI.sub, Nat.le_refl _, hints⟩
            · refine ⟨sm, h, ov, ws, rfl, rfl, hI, by omega, by omega, by omega, ?_, by simp [g8, g10, g11]⟩
              rw [heq]
              congr 2
              omega
        · exact ⟨S, h', ov', W, rfl, rfl, hI0, by omega, fun _ => rfl, fun h => h, by omega, rfl, by simp [hme]⟩
      · have hf1 : fstA G k < 0 := by omega
        have hln : lonD G k = [] := if_neg h0'
        simp [h0', hf1, hk, rd_at, endK_ret, rdO, app_at]
        have hfe : (Out.ret (.tuple #[emptyS, .int .i64 0])).scalar = true := rfl
        unfold pairQ
        rw [back_scalar hfe (Nat.le_refl _), hln]
        exact .inr ⟨by rw [hGe]; exact c1.2, emptyS, rfl, Sub.refl _, Nat.le_refl _, _, 0, 0, 0, rfl, fun h => absurd h (by simp), fun i hi => absurd hi (by simp), fun i => by simp [nth, I64], by simp⟩
    · by_cases d1 : 0 ≤ k
      · have d1' : ¬ k < 0 := by omega
        have d2' : (cpK (dgOf n x s L) : Int) + L ≤ k := by omega
        have c1' : ¬ (k < cpK (dgOf n x s L) + L) := by omega
        simp [joined_fl, hf, wrN_at0, set_at0, hmin, rd_def, rd_at0, hd0', hd1', app_at0, z1', d1, d1', d2', c1', endK_ret, back_scalar, Out.scalar, scalar, flat1, flat]
      · have d1' : k < 0 := by omega
        simp [joined_fl, hf, wrN_at0, set_at0, hmin, rd_def, rd_at0, hd0', hd1', app_at0, z1', d1, d1', endK_ret, back_scalar, Out.scalar, scalar, flat1, flat]
  · simp [dV, rdN_at0, joined_fl, DC_of h1, hk, endK_ret, back_scalar, Out.scalar, scalar, flat1, flat]
end Go.Proofs.Ytjlkndkedknocaa
namespace Go.Ai
set_option linter.unusedSimpArgs false
set_option linter.unusedVariables false
attribute [local instance] Classical.propDecidable
def invN (f : List Int) : Nat → List Int
  | 0 => List.replicate f.length 0
  | i + 1 => (invN f i).set (nth f i).toNat i
def invL (f : List Int) : List Int := invN f f.length
theorem invN_length (f : List Int) : ∀ i, (invN f i).length = f.length := by
  intro i
  induction i with
  | zero => simp [invN]
  | succ i ih => simp [invN, ih]
theorem invL_length (f : List Int) : (invL f).length = f.length := invN_length f _
def InN (n : Nat) (f : List Int) : Prop := ∀ i, i < f.length → 0 ≤ nth f i ∧ nth f i < n
structure PermL (n : Nat) (f : List Int) : Prop where
  len : f.length = n
  rng : InN n f
  inj : ∀ i j, i < j → j < n → nth f i ≠ nth f j
theorem invN_at {n : Nat} {f : List Int} (h : PermL n f) : ∀ k, k ≤ n → ∀ i, i < k → nth (invN f k) (nth f i).toNat = i := by
  intro k
  induction k with
  | zero => intro _ i hi; omega
  | succ k ih =>
    intro hk i hi
    have hl := invN_length f k
    have hlen := h.len
    have rk := h.rng k (by omega)
    have ri := h.rng i (by omega)
    simp only [invN]
    rw [nth_set (by omega)]
    by_cases e : i = k
    · rw [e, if_pos rfl]
    · have hne := h.inj i k (by omega) (by omega)
      rw [if_neg (by omega)]
      exact ih (by omega) i (by omega)
theorem invL_at {n : Nat} {f : List Int} (h : PermL n f) {i : Nat} (hi : i < n) : nth (invL f) (nth f i).toNat = i := by
  unfold invL
  rw [h.len]
  exact invN_at h n (Nat.le_refl _) i hi
theorem PermL.onto {n : Nat} {f : List Int} (h : PermL n f) {v : Nat} (hv : v < n) : ∃ i, i < n ∧ nth f i = v := by
  obtain ⟨i, h1, h2⟩ := Go.Proofs.Ytjlkndkedknocaa.onto n (fun i => (nth f i).toNat) (fun i hi => by have := h.rng i (by rw [h.len]; exact hi); omega) (fun i j hij hj e => by
    have a := h.rng i (by rw [h.len]; omega)
    have b := h.rng j (by rw [h.len]; omega)
    have e' : (nth f i).toNat = (nth f j).toNat := e
    exact h.inj i j hij hj (by omega)) v hv
  have := h.rng i (by rw [h.len]; exact h1)
  exact ⟨i, h1, by have h2' : (nth f i).toNat = v := h2; omega⟩
theorem PermL.inv {n : Nat} {f : List Int} (h : PermL n f) : PermL n (invL f) := by
  have hl : (invL f).length = n := by rw [invL_length, h.len]
  have key : ∀ v, v < n → ∃ i, i < n ∧ nth f i = v ∧ nth (invL f) v = i := fun v hv => by
    obtain ⟨i, h1, h2⟩ := h.onto hv
    refine ⟨i, h1, h2, ?_⟩
    have := invL_at h h1
    rw [h2] at this
    exact this
  refine ⟨hl, fun v hv => ?_, fun u v huv hv e => ?_⟩
  · obtain ⟨i, h1, h2, h3⟩ := key v (by omega)
    rw [h3]; omega
  · obtain ⟨i, h1, h2, h3⟩ := key u (by omega)
    obtain ⟨j, h4, h5, h6⟩ := key v hv
    rw [h3, h6] at e
    have : i = j := by omega
    subst this
    omega
def actL (A B : List (List Int)) (p : Int) (y : Int) : Int := if 0 < y then nth (nthR A (y - 1).toNat) p.toNat else nth (nthR B (-y - 1).toNat) p.toNat
def actW (A B : List (List Int)) (w : List Int) (p : Int) : Int := w.foldl (actL A B) p
def actN (A B : List (List Int)) (w : List Int) (p : Int) : Nat → Int
  | 0 => p
  | j + 1 => actL A B (actN A B w p j) (nth w j)
theorem actW_eq (A B : List (List Int)) (w : List Int) (p : Int) : actW A B w p = actN A B w p w.length := by
  have key : ∀ j, j ≤ w.length → (w.take j).foldl (actL A B) p = actN A B w p j := by
    intro j
    induction j with
    | zero => intro _; rfl
    | succ j ih =>
      intro hj
      have e : w.take (j + 1) = w.take j ++ [nth w j] := by rw [List.take_add_one, List.getElem?_eq_getElem (by omega), nth_eq (by omega)]; rfl
      rw [e, List.foldl_append, ih (by omega)]
      rfl
  have := key w.length (Nat.le_refl _)
  rw [List.take_length] at this
  exact this
def RowsOk (n : Nat) (A : List (List Int)) : Prop := ∀ k, k < A.length → (nthR A k).length = n ∧ InN n (nthR A k)
def LetOk (g : Nat) (w : List Int) : Prop := ∀ j, j < w.length → nth w j ≠ 0 ∧ -(g : Int) ≤ nth w j ∧ nth w j ≤ g
theorem actN_in {A B : List (List Int)} {w : List Int} {n : Nat} (hA : RowsOk n A) (hB : RowsOk n B) (hw : LetOk A.length w) (hl : B.length = A.length) {p : Int} (hp : 0 ≤ p ∧ p < n) : ∀ j, j ≤ w.length → 0 ≤ actN A B w p j ∧ actN A B w p j < n := by
  intro j
  induction j with
  | zero => intro _; exact hp
  | succ j ih =>
    intro hj
    have h1 := ih (by omega)
    have h2 := hw j (by omega)
    simp only [actN, actL]
    split
    · have h3 := hA (nth w j - 1).toNat (by omega)
      exact h3.2 _ (by rw [h3.1]; omega)
    · have h3 := hB (-nth w j - 1).toNat (by omega)
      exact h3.2 _ (by rw [h3.1]; omega)
def TrivL (A B : List (List Int)) (w : List Int) (n : Nat) : Prop := ∀ i : Nat, i < n → actW A B w i = i
theorem Ints.at {h : List O} {v : Value} {xs : List Int} (hi : Ints h v xs) : ∃ a b o c, v = .slice a xs.length c ∧ (0 < xs.length → a = some ⟨b, o, none⟩) ∧ (∀ i, i < xs.length → rdO h[b]? (o + i) = some (.int .i64 (nth xs i))) := by
  obtain ⟨a, b, o, c, h1, h2, h3, _⟩ := hi
  exact ⟨a, b, o, c, h1, h2, fun i hi => by rw [← rd_def]; exact h3 i hi⟩
theorem Mat.at {h : List O} {v : Value} {A : List (List Int)} (hm : Mat h v A) : ∃ a b o c, ∃ vs : Nat → Value, v = .slice a A.length c ∧ (0 < A.length → a = some ⟨b, o, none⟩) ∧ (∀ i, i < A.length → rdO h[b]? (o + i) = some (vs i) ∧ Ints h (vs i) (nthR A i)) := by
  obtain ⟨a, b, o, c, vs, h1, h2, h3, _⟩ := hm
  exact ⟨a, b, o, c, vs, h1, h2, fun i hi => by rw [← rd_def]; exact h3 i hi⟩
end Go.Ai
namespace Go.Proofs.Ytjlkndkedknocaa
open Go Go.Ai
set_option linter.unusedSimpArgs false
set_option linter.unusedVariables false
attribute [local instance] Classical.propDecidable
variable {E : Env} (hE : OE E)
include hE
theorem inverse_ {h : List O} {v : Value} {f : List Int} (hv : Ints h v f) (hr : InN f.length f) (hs : f.length ≤ 100000) :
    DR E 145 [v] ⟨h, h.length⟩ (.ret (.slice (some ⟨h.length, 0, none⟩) f.length f.length)) ⟨h ++ [.cells (intsC (invL f)) 3 (some 0)], h.length⟩ := by
  refine hE.fn (body := rb145) rfl ?_
  unfold rb145
  obtain ⟨a, b, o, c, rfl, ha, hrd⟩ := hv.at
  have e1 : (f.length : Int) * 8 ≤ 140737488355328 := by omega
  have e2 : (f.length : Int) < 4611686018427387904 := by omega
  simp [e1, e2]
  refine DW_loop (fun kk fr st => ∃ (i : Nat), i + kk = f.length ∧ st = ⟨h ++ [.cells (intsC (invN f i)) 3 (some 0)], h.length⟩ ∧ get fr 3 = .slice (some ⟨h.length, 0, none⟩) f.length f.length ∧ get fr 9 = .slice a f.length c ∧ get fr 10 = .int .i64 f.length ∧ get fr 11 = .int .i64 i) ?_ (k := f.length) ?_
  · rintro kk fr st ⟨i, hik, rfl, g3, g9, g10, g11⟩
    by_cases hi : i < f.length
    · have hw : IntKind.i64.wrap ((i : Int) + 1) = (i : Int) + 1 := by rw [w64_id] <;> omega
      obtain rfl := ha (by omega)
      have hbl : b < h.length := by
        have := hrd i hi
        unfold rdO at this
        split at this
        · rename_i hb; exact (List.getElem?_eq_some_iff.1 hb).1
        · cases this
      have hrd' : ∀ l, rdO (h ++ l)[b]? (o + i) = some (.int .i64 (nth f i)) := fun l => by rw [List.getElem?_append_left hbl]; exact hrd i hi
      have hri := hr i hi
      obtain ⟨y, hy⟩ : ∃ y : Nat, nth f i = y := ⟨(nth f i).toNat, by omega⟩
      have hyl : y < f.length := by omega
      have hil := invN_length f i
      have hyl2 : y + 1 ≤ (invN f i).length := by omega
      have hiN : (invN f i).set y i = invN f (i + 1) := by simp only [invN, hy]; rfl
      simp [g3, g9, g10, g11, hi, rd_def, hrd', hy, hyl, wrN_at0, hyl2, intsC_set, set_at0, hiN, hw]
      exact ⟨kk - 1, by omega, i + 1, by omega, rfl, by omega⟩
    · have hin : i = f.length := by omega
      subst hin
      simp [g3, g9, g10, g11, endK_ret]
      unfold pairQ back
      rw [if_neg (by simp [Out.scalar, scalar, flat1, flat])]
      exact ⟨rfl, rfl⟩
  · exact ⟨0, by omega, by simp [rep, intsC, invN], by simp⟩
theorem isTrivial_ {h : List O} {va vb vw : Value} {A B : List (List Int)} {w : List Int} {n : Nat} (hA : Mat h va A) (hB : Mat h vb B) (hw : Ints h vw w) (rA : RowsOk n A) (rB : RowsOk n B) (hl : B.length = A.length) (hL : LetOk A.length w) (hs : A.length ≤ 100000 ∧ n ≤ 100000) :
    DR E 146 [va, vb, vw, .int .i64 n] ⟨h, h.length⟩ (.ret (.bool (decide (TrivL A B w n)))) ⟨h, h.length⟩ := by
  refine hE.fn (body := rb146) rfl ?_
  unfold rb146
  obtain ⟨aa, ab, ao, ac, avs, rfl, ha, har⟩ := hA.at
  obtain ⟨ba, bb, bo, bc, bvs, rfl, hb, hbr⟩ := hB.at
  obtain ⟨wa, wb, wo, wc, rfl, hwa, hwr⟩ := hw.at
  have hwlen : w.length < 2 ^ 62 := by obtain ⟨_, _, _, _, _, _, _, _, h5⟩ := hw; exact h5
  simp
  refine DW_loop (fun kk fr st => ∃ (i : Nat), i + kk = n ∧ st = ⟨h, h.length⟩ ∧ (∀ i', i' < i → actW A B w i' = i') ∧ get fr 0 = .slice aa A.length ac ∧ get fr 1 = .slice ba B.length bc ∧ get fr 2 = .slice wa w.length wc ∧ get fr 13 = .int .i64 n ∧ get fr 14 = .int .i64 i) ?_ (k := n) ?_
  · rintro kk fr st ⟨i, hik, rfl, hd, g0, g1, g2, g13, g14⟩
    by_cases hi : i < n
    · have hwi : IntKind.i64.wrap ((i : Int) + 1) = (i : Int) + 1 := by rw [w64_id] <;> omega
      simp [g0, g1, g2, g13, g14, hi]
      refine DW_loop (fun kk' fr st => ∃ (j : Nat), j + kk' = w.length ∧ st = ⟨h, h.length⟩ ∧ get fr 0 = .slice aa A.length ac ∧ get fr 1 = .slice ba B.length bc ∧ get fr 2 = .slice wa w.length wc ∧ get fr 13 = .int .i64 n ∧ get fr 14 = .int .i64 i ∧ get fr 9 = .int .i64 i ∧ get fr 10 = .int .i64 (actN A B w i j) ∧ get fr 18 = .slice wa w.length wc ∧ get fr 19 = .int .i64 w.length ∧ get fr 20 = .int .i64 j) ?_ (k := w.length) ?_
      · clear g0 g1 g2 g13 g14
        rintro kk' fr st ⟨j, hjk, rfl, g0, g1, g2, g13, g14, g9, g10, g18, g19, g20⟩
        by_cases hj : j < w.length
        · have hwj : IntKind.i64.wrap ((j : Int) + 1) = (j : Int) + 1 := by rw [w64_id] <;> omega
          obtain rfl := hwa (by omega)
          have hin := actN_in rA rB hL hl (p := i) (by omega) j (by omega)
          obtain ⟨p, hp⟩ : ∃ p : Nat, actN A B w i j = p := ⟨(actN A B w i j).toNat, by omega⟩
          have hlt := hL j hj
          rw [hp] at g10 hin
          by_cases hpos : 0 < nth w j
          · obtain ⟨y, hy⟩ : ∃ y : Nat, nth w j - 1 = y := ⟨(nth w j - 1).toNat, by omega⟩
            have hwy : IntKind.i64.wrap (nth w j - 1) = y := by rw [w64_id] <;> omega
            have hyl : y < A.length := by omega
            obtain rfl := ha (by omega)
            obtain ⟨r1, r2⟩ := har y hyl
            have hrow := rA y hyl
            obtain ⟨ra, rb, ro, rc, hrv, hra, hrr⟩ := r2.at
            obtain rfl := hra (by omega)
            have hpl : p < (nthR A y).length := by omega
            rw [hrv] at r1
            have hnext : actN A B w i (j + 1) = nth (nthR A y) p := by
              simp only [actN, actL, hp]
              rw [if_pos hpos, hy]
              simp
            simp [g0, g1, g2, g13, g14, g9, g10, g18, g19, g20, hj, rd_def, hwr j hj, hpos, hwy, hyl, r1, hpl, hrr p hpl, hwj]
            exact ⟨kk' - 1, by omega, j + 1, by omega, hnext.symm, by omega⟩
          · obtain ⟨y, hy⟩ : ∃ y : Nat, -nth w j - 1 = y := ⟨(-nth w j - 1).toNat, by omega⟩
            have hwn : IntKind.i64.wrap (-nth w j) = -nth w j := by rw [w64_id] <;> omega
            have hwy : IntKind.i64.wrap (-nth w j - 1) = y := by rw [w64_id] <;> omega
            have hyl : y < B.length := by omega
            obtain rfl := hb (by omega)
            obtain ⟨r1, r2⟩ := hbr y hyl
            have hrow := rB y hyl
            obtain ⟨ra, rb, ro, rc, hrv, hra, hrr⟩ := r2.at
            obtain rfl := hra (by omega)
            have hpl : p < (nthR B y).length := by omega
            rw [hrv] at r1
            have hnext : actN A B w i (j + 1) = nth (nthR B y) p := by
              simp only [actN, actL, hp]
              rw [if_neg hpos, hy]
              simp
            simp [g0, g1, g2, g13, g14, g9, g10, g18, g19, g20, hj, rd_def, hwr j hj, hpos, hwn, hwy, hyl, r1, hpl, hrr p hpl, hwj]
            exact ⟨kk' - 1, by omega, j + 1, by omega, hnext.symm, by omega⟩
        · have hjw : j = w.length := by omega
          subst hjw
          rw [← actW_eq] at g10
          by_cases he : actW A B w i = i
          · simp [g0, g1, g2, g13, g14, g9, g10, g18, g19, g20, he, hwi]
            refine ⟨kk - 1, by omega, i + 1, by omega, fun i' hi' => ?_, by omega⟩
            by_cases e : i' = i
            · rw [e]; exact he
            · exact hd i' (by omega)
          · have hnt : ¬ TrivL A B w n := fun ht => he (ht i hi)
            simp [g0, g1, g2, g13, g14, g9, g10, g18, g19, g20, he, hnt, endK_ret]
      · exact ⟨0, by omega, rfl, by simp [g0, g1, g2, g13, g14, actN]⟩
    · have hin : i = n := by omega
      subst hin
      have ht : TrivL A B w i := hd
      simp [g0, g1, g2, g13, g14, ht, endK_ret]
  · exact ⟨0, by omega, rfl, fun i' h => by omega, by simp⟩
end Go.Proofs.Ytjlkndkedknocaa
namespace Go.Proofs.Ytjlkndkedknocaa
open Go Go.Ai
set_option linter.unusedSimpArgs false
set_option linter.unusedVariables false
attribute [local instance] Classical.propDecidable
def PermB (f : List Int) : Prop := PermL f.length f ∧ 1 ≤ f.length ∧ f.length ≤ 200
def PermsA (A : List (List Int)) : Prop := ∀ i, i < A.length → (nthR A i).length = (nthR A 0).length ∧ PermB (nthR A i)
def invA (A : List (List Int)) : List (List Int) := A.map invL
def HomA (G : Dg) (A : List (List Int)) : Prop := ∀ i, i < G.n → TrivL A (invA A) (relOf G i) (nthR A 0).length
noncomputable def checkD (G : Dg) (A : List (List Int)) : Int := if (A.length : Int) = arC G + G.L then (if PermsA A then (if HomA G A then 0 else 5) else 1) else 1
theorem invA_length (A : List (List Int)) : (invA A).length = A.length := by simp [invA]
theorem invA_at {A : List (List Int)} {i : Nat} (h : i < A.length) : nthR (invA A) i = invL (nthR A i) := by simp [invA, nthR, h]
theorem PermsA.rows {A : List (List Int)} (h : PermsA A) : RowsOk (nthR A 0).length A := fun k hk => by
  obtain ⟨h1, h2, _⟩ := h k hk
  exact ⟨h1, by rw [← h1]; exact h2.rng⟩
theorem PermsA.inv {A : List (List Int)} (h : PermsA A) : RowsOk (nthR A 0).length (invA A) := fun k hk => by
  rw [invA_length] at hk
  obtain ⟨h1, h2, _⟩ := h k hk
  have := h2.inv
  rw [invA_at hk, ← h1]
  exact ⟨this.len, this.rng⟩
theorem relOf_let {G : Dg} (hG : GoodG G) {g i : Nat} (hi : i < G.n) (hg : arC G ≤ g) : LetOk g (relOf G i) := by
  intro j hj
  have h0 := gen_le hG hi (show 0 < 4 by omega)
  have h1 := gen_le hG hi (show 1 < 4 by omega)
  have h2 := gen_le hG hi (show 2 < 4 by omega)
  have hj4 : j < 4 := by simpa [relOf] using hj
  unfold relOf
  match j, hj4 with
  | 0, _ => rcases hG.sign i hi with e | e <;> simp [nth, e] <;> omega
  | 1, _ => simp [nth]; omega
  | 2, _ => rcases hG.sign i hi with e | e <;> simp [nth, e] <;> omega
  | 3, _ => simp [nth]; omega
variable {E : Env} (hE : OE E)
include hE
theorem isPerm_ {h : List O} {v : Value} {f : List Int} (hv : Ints h v f) (hroom : f.length * 8 ≤ roomMax) :
    DR E 144 [v] ⟨h, h.length⟩ (.ret (.bool (decide (PermB f)))) ⟨h, h.length⟩ := by
  refine hE.fn (body := rb144) rfl ?_
  unfold rb144
  simp only [roomMax] at hroom
  obtain ⟨a, b, o, c, rfl, ha, hrd⟩ := hv.at
  have e1 : (f.length : Int) ≤ 140737488355328 := by omega
  have e2 : (f.length : Int) < 4611686018427387904 := by omega
  have hbs : ∀ l, (Out.ret (.bool l)).scalar = true := fun _ => rfl
  simp [e1, e2]
  refine DW_loop (fun kk fr st => ∃ (i : Nat) (bs : List Bool), i + kk = f.length ∧ st = ⟨h ++ [.cells (boolsC bs) 4 (some 0)], h.length⟩ ∧ bs.length = f.length ∧ (∀ y, y < f.length → (bnth bs y = true ↔ ∃ j, j < i ∧ nth f j = y)) ∧ (∀ j, j < i → 0 ≤ nth f j ∧ nth f j < f.length) ∧ (∀ j j', j < j' → j' < i → nth f j ≠ nth f j') ∧
    get fr 0 = .slice a f.length c ∧ get fr 3 = .slice (some ⟨h.length, 0, none⟩) f.length f.length ∧ get fr 9 = .slice a f.length c ∧ get fr 10 = .int .i64 f.length ∧ get fr 11 = .int .i64 i) ?_ (k := f.length) ?_
  · rintro kk fr st ⟨i, bs, hik, rfl, hbl, hbs1, hrg, hij, g0, g3, g9, g10, g11⟩
    by_cases hi : i < f.length
    · have hw : IntKind.i64.wrap ((i : Int) + 1) = (i : Int) + 1 := by rw [w64_id] <;> omega
      obtain rfl := ha (by omega)
      have hbl' : b < h.length := by
        have := hrd i hi
        unfold rdO at this
        split at this
        · rename_i hb; exact (List.getElem?_eq_some_iff.1 hb).1
        · cases this
      have hrd' : ∀ l, rdO (h ++ l)[b]? (o + i) = some (.int .i64 (nth f i)) := fun l => by rw [List.getElem?_append_left hbl']; exact hrd i hi
      by_cases c1 : nth f i < 0
      · have hno : ¬ PermB f := fun hp => by have := hp.1.rng i (by omega); omega
        simp [g0, g3, g9, g10, g11, hi, rd_def, hrd', c1, endK_ret, hno, back_scalar, Out.scalar, scalar, flat1, flat]
      · by_cases c2 : (f.length : Int) ≤ nth f i
        · have hno : ¬ PermB f := fun hp => by have := hp.1.rng i (by omega); omega
          simp [g0, g3, g9, g10, g11, hi, rd_def, hrd', c1, c2, endK_ret, hno, back_scalar, Out.scalar, scalar, flat1, flat]
        · obtain ⟨y, hy⟩ : ∃ y : Nat, nth f i = y := ⟨(nth f i).toNat, by omega⟩
          have hyl : y < f.length := by omega
          have hyl2 : y < bs.length := by omega
          have hyl3 : y + 1 ≤ f.length := by omega
          have c1' : ¬ ((y : Int) < 0) := by omega
          have c2' : ¬ (f.length ≤ y) := by omega
          by_cases c3 : bnth bs y = true
          · obtain ⟨j, hj, hjy⟩ := (hbs1 y hyl).1 c3
            have hno : ¬ PermB f := fun hp => hp.1.inj j i hj (by omega) (by rw [hjy, hy])
            simp [g0, g3, g9, g10, g11, hi, rd_def, hrd', hy, c1', c2', hyl, rd_at0, app_at0, boolsC_get hyl2, c3, endK_ret, hno, back_scalar, Out.scalar, scalar, flat1, flat]
          · have c3' : bnth bs y = false := by simpa using c3
            simp [g0, g3, g9, g10, g11, hi, rd_def, hrd', hy, c1', c2', hyl, rd_at0, app_at0, boolsC_get hyl2, c3', wrN_at0, hbl, hyl3, boolsC_set, set_at0, hw]
            refine ⟨kk - 1, by omega, i + 1, by omega, bs.set y true, rfl, by simp [hbl], fun z hz => ?_, fun j hj => ?_, fun j j' h1 h2 => ?_, by omega⟩
            · rw [bnth_set hyl2]
              by_cases e : z = y
              · rw [if_pos e]
                exact ⟨fun _ => ⟨i, by omega, by rw [hy, e]⟩, fun _ => rfl⟩
              · rw [if_neg e, hbs1 z hz]
                constructor
                · rintro ⟨j, h1, h2⟩; exact ⟨j, by omega, h2⟩
                · rintro ⟨j, h1, h2⟩
                  by_cases ej : j = i
                  · rw [ej, hy] at h2; omega
                  · exact ⟨j, by omega, h2⟩
            · by_cases ej : j = i
              · rw [ej]; omega
              · exact hrg j (by omega)
            · by_cases ej : j' = i
              · rw [ej, hy]
                intro e
                exact c3 ((hbs1 y hyl).2 ⟨j, by omega, e⟩)
              · exact hij j j' h1 (by omega)
    · have hin : i = f.length := by omega
      subst hin
      have hP : PermL f.length f := ⟨rfl, fun j hj => hrg j hj, hij⟩
      by_cases c1 : 1 ≤ f.length
      · have c1' : (1 : Int) ≤ f.length := by omega
        by_cases c2 : f.length ≤ 200
        · have c2' : (f.length : Int) ≤ 200 := by omega
          have hyes : PermB f := ⟨hP, c1, c2⟩
          simp [g0, g3, g9, g10, g11, c1', c2', endK_ret, hyes, back_scalar, Out.scalar, scalar, flat1, flat]
        · have c2' : ¬ (f.length : Int) ≤ 200 := by omega
          have hno : ¬ PermB f := fun hp => c2 hp.2.2
          simp [g0, g3, g9, g10, g11, c1', c2', endK_ret, hno, back_scalar, Out.scalar, scalar, flat1, flat]
      · have c1' : ¬ (1 : Int) ≤ f.length := by omega
        have hno : ¬ PermB f := fun hp => c1 hp.2.1
        simp [g0, g3, g9, g10, g11, c1', endK_ret, hno, back_scalar, Out.scalar, scalar, flat1, flat]
  · refine ⟨0, List.replicate f.length false, by omega, by simp [rep, boolsC], by simp, fun y hy => ?_, fun j h => by omega, fun j j' h1 h2 => by omega, by simp⟩
    rw [bnth_rep hy]
    simp
end Go.Proofs.Ytjlkndkedknocaa
namespace Go.Ai
set_option linter.unusedSimpArgs false
set_option linter.unusedVariables false
attribute [local instance] Classical.propDecidable
theorem appendEN {el : TypeId} {size bytes b o n c fl : Nat} {H : List O} {l : List Value} (hr : rdN H b o (n * size) = some l) (hn : 0 < n) (hs : 0 < size) (hall : l.all one1 = true) (hroom : n * bytes ≤ roomMax) :
    appendV el size bytes emptyS (.slice (some ⟨b, o, none⟩) n c) ⟨H, fl⟩ = some (.slice (some ⟨H.length, 0, none⟩) n n, ⟨H ++ [.cells l el (some size)], fl⟩) := by
  have hns : ¬ n * size = 0 := by
    have := Nat.mul_pos hn hs; omega
  have hrd : readSlice H size n (some ⟨b, o, none⟩) = some l := by simp only [readSlice]; rw [if_neg hns]; exact hr
  simp only [appendV, emptyS, hrd, bind, Option.bind_some, appendCells]
  rw [if_neg (by omega), if_neg (by omega), if_pos ⟨by rw [Nat.zero_add]; exact hroom, hall⟩]
  simp [readSlice, kill]
theorem append_fit {el : TypeId} {bytes b k c xb fl : Nat} {H : List O} {cs : List Value} {e : TypeId} {s : Nat} {v : Value} (hb : H[b]? = some (.cells cs e (some s))) (hk : k + 1 ≤ c) (hc : k + 1 ≤ cs.length) (hv : one1 v = true) (hx : rdN H xb 0 1 = some [v]) :
    appendV el 1 bytes (.slice (some ⟨b, 0, none⟩) k c) (.slice (some ⟨xb, 0, none⟩) 1 1) ⟨H, fl⟩ = some (.slice (some ⟨b, 0, none⟩) (k + 1) c, ⟨H.set b (.cells (cs.set k v) e (some s)), min fl b⟩) := by
  have hrd : readSlice H 1 1 (some ⟨xb, 0, none⟩) = some [v] := by simp [readSlice, hx]
  simp only [appendV, hrd, bind, Option.bind_some, appendCells]
  rw [if_neg (by omega), if_pos (by omega)]
  simp [wrN, hb, hc, hv]
def visL (n : Nat) : Nat → List Int → List (List Int)
  | 0, f => [f]
  | m + 1, f => (List.range n).flatMap fun (x : Nat) => if (x : Int) ∈ f then [] else visL n m (f ++ [(x : Int)])
def visI (n m : Nat) (f : List Int) (i : Nat) : List (List Int) := (List.range i).flatMap fun (x : Nat) => if (x : Int) ∈ f then [] else visL n m (f ++ [(x : Int)])
theorem visI_succ (n m : Nat) (f : List Int) (i : Nat) : visI n m f (i + 1) = visI n m f i ++ (if (i : Int) ∈ f then [] else visL n m (f ++ [(i : Int)])) := by
  unfold visI
  rw [List.range_succ, List.flatMap_append]
  simp
theorem visL_le (n : Nat) : ∀ m f, (visL n m f).length ≤ n ^ m := by
  intro m
  induction m with
  | zero => intro f; simp [visL]
  | succ m ih =>
    intro f
    have key : ∀ i, ((List.range i).flatMap fun (x : Nat) => if (x : Int) ∈ f then [] else visL n m (f ++ [(x : Int)])).length ≤ i * n ^ m := by
      intro i
      induction i with
      | zero => simp
      | succ i ih2 =>
        rw [List.range_succ, List.flatMap_append, List.length_append, Nat.succ_mul]
        have h2 : ([i].flatMap fun x : Nat => if (x : Int) ∈ f then [] else visL n m (f ++ [(x : Int)])).length ≤ n ^ m := by
          simp only [List.flatMap_cons, List.flatMap_nil, List.append_nil]
          split
          · simp
          · exact ih _
        omega
    have := key n
    rw [Nat.pow_succ, Nat.mul_comm]
    exact this
theorem visI_le (n m : Nat) (f : List Int) (i : Nat) : (visI n m f i).length ≤ i * n ^ m := by
  induction i with
  | zero => simp [visI]
  | succ i ih =>
    rw [visI_succ, List.length_append, Nat.succ_mul]
    have h2 : (if (i : Int) ∈ f then [] else visL n m (f ++ [(i : Int)])).length ≤ n ^ m := by
      split
      · simp
      · exact visL_le _ _ _
    omega
theorem take_nth {buf f : List Int} {k : Nat} (h : buf.take k = f) (hk : f.length = k) {i : Nat} (hi : i < k) : nth buf i = nth f i := by
  rw [← h]
  unfold nth
  rw [List.getD_eq_getElem?_getD, List.getD_eq_getElem?_getD, List.getElem?_take, if_pos hi]
end Go.Ai
namespace Go.Proofs.Ytjlkndkedknocaa
open Go Go.Ai
set_option linter.unusedSimpArgs false
set_option linter.unusedVariables false
attribute [local instance] Classical.propDecidable
variable {E : Env} (hE : OE E)
include hE
theorem indexI2_ {h : List O} {v : Value} {xs : List Int} {y : Int} (hv : Ints h v xs) (hlt : xs.length < 1000000) :
    DR E 211 [v, .int .i64 y] ⟨h, h.length⟩ (.ret (.int .i64 (firstI (fun j => decide (nth xs j = y)) xs.length))) ⟨h, h.length⟩ := by
  refine hE.fn (body := rb211) rfl ?_
  unfold rb211
  obtain ⟨a, b, o, c, rfl, ha, hrd⟩ := hv.at
  simp
  refine DW_loop (fun kk fr st => ∃ (i : Nat), i + kk = xs.length ∧ st = ⟨h, h.length⟩ ∧ (∀ j, j < i → nth xs j ≠ y) ∧ get fr 0 = .slice a xs.length c ∧ get fr 1 = .int .i64 y ∧ get fr 7 = .int .i64 xs.length ∧ get fr 8 = .int .i64 i) ?_ (k := xs.length) ?_
  · rintro kk fr st ⟨i, hik, rfl, hm, g0, g1, g7, g8⟩
    by_cases hi : i < xs.length
    · have hw : IntKind.i64.wrap ((i : Int) + 1) = (i : Int) + 1 := by rw [w64_id] <;> omega
      obtain rfl := ha (by omega)
      have hr := hrd i hi
      by_cases hy : nth xs i = y
      · have hf : firstI (fun j => decide (nth xs j = y)) xs.length = i := firstI_found hi (by simp [hy]) (fun j hj => by simp [hm j hj])
        rw [hy] at hr
        simp [g0, g1, g7, g8, hi, rd_def, hr, endK_ret, hf]
      · have hy' : ¬ y = nth xs i := fun e => hy e.symm
        simp [g0, g1, g7, g8, hi, rd_def, hr, hy', hw]
        refine ⟨kk - 1, by omega, i + 1, by omega, fun j hj => ?_, by omega⟩
        by_cases e : j = i
        · rw [e]; exact hy
        · exact hm j (by omega)
    · have hin : i = xs.length := by omega
      subst hin
      have hf : firstI (fun j => decide (nth xs j = y)) xs.length = -1 := firstI_none (fun j hj => by simp [hm j hj])
      simp [g0, g1, g7, g8, endK_ret, hf]
  · exact ⟨0, by omega, rfl, fun j h => by omega, by simp⟩
theorem containsI_ {h : List O} {v : Value} {xs : List Int} {y : Int} (hv : Ints h v xs) (hlt : xs.length < 1000000) :
    DR E 187 [v, .int .i64 y] ⟨h, h.length⟩ (.ret (.bool (decide (y ∈ xs)))) ⟨h, h.length⟩ := by
  refine hE.fn (body := rb187) rfl ?_
  unfold rb187
  have hi := indexI2_ hE (y := y) hv hlt
  have hiff : (0 ≤ firstI (fun j => decide (nth xs j = y)) xs.length) ↔ y ∈ xs := by
    rcases firstI_cases (fun j => decide (nth xs j = y)) xs.length with ⟨i, h1, h2, _, h3⟩ | ⟨h1, h2⟩
    · rw [h3]
      have : nth xs i = y := by simpa using h2
      exact ⟨fun _ => this ▸ nth_mem h1, fun _ => by omega⟩
    · rw [h2]
      refine ⟨fun h => by omega, fun h => ?_⟩
      obtain ⟨j, hj, rfl⟩ := List.getElem_of_mem h
      have := h1 j hj
      rw [nth_eq hj] at this
      simp at this
  simp [DC_of hi, endK_ret, hiff]
theorem clone_ {h : List O} {b n c : Nat} {f : List Int} (hr : rdN h b 0 n = some (intsC f)) (hn : 0 < n) (hs : n ≤ 100000) :
    DR E 179 [.slice (some ⟨b, 0, none⟩) n c] ⟨h, h.length⟩ (.ret (.slice (some ⟨h.length, 0, none⟩) n n)) ⟨h ++ [.cells (intsC f) 3 (some 1)], h.length⟩ := by
  refine hE.fn (body := rb179) rfl ?_
  unfold rb179
  have hall : (intsC f).all one1 = true := by simp [intsC]
  have happ := appendEN (el := 3) (size := 1) (bytes := 8) (c := c) (fl := h.length) (by rw [Nat.mul_one]; exact hr) hn (by omega) hall (by simp only [roomMax]; omega)
  simp [happ, endK_ret]
  unfold pairQ back
  rw [if_neg (by simp [Out.scalar, scalar, flat1, flat])]
  exact ⟨rfl, rfl⟩
end Go.Proofs.Ytjlkndkedknocaa
namespace Go.Proofs.Ytjlkndkedknocaa
open Go Go.Ai
set_option linter.unusedSimpArgs false
set_option linter.unusedVariables false
attribute [local instance] Classical.propDecidable
def PrmI (h : List O) (lo n : Nat) (vs : List Value) (Ls : List (List Int)) : Prop :=
  ∀ q, q < Ls.length → ∃ b, vs[q]? = some (.slice (some ⟨b, 0, none⟩) n n) ∧ lo ≤ b ∧ h[b]? = some (.cells (intsC (nthR Ls q)) 3 (some 1))
structure VsI (h : List O) (lo n B po k : Nat) (f : List Int) (Ls : List (List Int)) : Prop where
  buf : ∃ buf, h[B]? = some (.cells (intsC buf) 3 (some 0)) ∧ buf.length = n ∧ buf.take k = f
  out : ∃ ov vs, h[po]? = some (.cells [ov] 48 (some 0)) ∧ OwnS h lo ov Ls.length vs 34 1 ∧ PrmI h lo n vs Ls
  lo_ : lo ≤ h.length
def VisP (h : List O) (base lo n B po k : Nat) (f : List Int) (Ls : List (List Int)) (st' : St) : Prop :=
  base ≤ st'.fl ∧ h.length ≤ st'.h.length ∧ (∀ (b : Nat) (o : O), b < lo → h[b]? = some o → b ≠ po → b ≠ B → st'.h[b]? = some o) ∧ VsI st'.h lo n B po k f Ls
def visV (pn po pv : Nat) : Value := .func (.func 186) #[] #[.pointer (some ⟨pn, 0, none⟩), .pointer (some ⟨po, 0, none⟩), .pointer (some ⟨pv, 0, none⟩)]
theorem take_set_snoc {buf f : List Int} {k : Nat} {x : Int} (h : buf.take k = f) (hk : k < buf.length) : (buf.set k x).take (k + 1) = f ++ [x] := by
  apply List.ext_getElem?
  intro i
  rw [List.getElem?_take]
  have hf : f.length = k := by rw [← h, List.length_take]; omega
  by_cases hi : i < k
  · rw [if_pos (by omega), List.getElem?_set_ne (by omega), List.getElem?_append_left (by omega), ← h, List.getElem?_take, if_pos hi]
  · by_cases e : i = k
    · rw [if_pos (by omega), e, List.getElem?_set_self hk, List.getElem?_append_right (by omega), hf]; simp
    · rw [if_neg (by omega), List.getElem?_eq_none (by simp; omega)]
variable {E : Env} (hE : OE E)
include hE
theorem visit_ {n lo base B pn po pv : Nat} (hn : n ≤ 6) (h1 : base ≤ B) (h2 : base ≤ po) (h3 : base ≤ lo) (h4 : B < lo) (h5 : po < lo) (h6 : pn < lo) (h7 : pv < lo) (h8 : po ≠ B) (h9 : pn ≠ B) (h10 : pn ≠ po) (h11 : pv ≠ B) (h12 : pv ≠ po) :
    ∀ (m : Nat) {h : List O} {f : List Int} {Ls : List (List Int)}, f.length + m = n → (∀ y ∈ f, 0 ≤ y ∧ y < n) → 0 < n → Ls.length + n ^ m ≤ 1000000 →
      h[pn]? = some (.cells [.int .i64 n] 3 (some 0)) → h[pv]? = some (.cells [visV pn po pv] 226 (some 0)) → VsI h lo n B po f.length f Ls →
      DC E 186 [.slice (some ⟨B, 0, none⟩) f.length n, .pointer (some ⟨pn, 0, none⟩), .pointer (some ⟨po, 0, none⟩), .pointer (some ⟨pv, 0, none⟩)] ⟨h, h.length⟩ fun o st' => o = .ret (.tuple #[]) ∧ VisP h base lo n B po f.length f (Ls ++ visL n m f) st' := by
  intro m
  induction m with
  | zero =>
    intro h f Ls hfm hf hn0 hbd e1 e2 hI
    refine hE.fnC (body := rb186) rfl ?_
    unfold rb186
    obtain ⟨buf, hb, hbl, hbt⟩ := hI.buf
    obtain ⟨ov, vs, ho, hov, hP⟩ := hI.out
    have hlo := hI.lo_
    have hfn : f.length = n := by omega
    have hbf : buf = f := by rw [← hbt, hfn, ← hbl, List.take_length]
    subst hbf
    have hrd : rdN h B 0 n = some (intsC buf) := by
      rw [rdN_def, hb, rdNO_cells, if_pos (by simp; omega)]
      simp [List.take_of_length_le, hbl]
    have hcl := clone_ hE (c := n) hrd hn0 (by omega)
    obtain ⟨H2, hH2⟩ : ∃ H2, H2 = h ++ [O.cells (intsC buf) 3 (some 1)] := ⟨_, rfl⟩
    have hl2 : H2.length = h.length + 1 := by rw [hH2]; simp
    have hE2 : Ext h H2 := by rw [hH2]; exact Ext.snoc _ _
    have hin : H2[h.length]? = some (O.cells (intsC buf) 3 (some 1)) := by rw [hH2, app_at0]; rfl
    have hu2 : OwnS (H2 ++ [.cells [.slice (some ⟨h.length, 0, none⟩) n n] 34 (some 0)]) lo ov Ls.length vs 34 1 := hov.ext (hE2.trans (Ext.snoc _ _))
    have hread : readSlice (H2 ++ [.cells [.slice (some ⟨h.length, 0, none⟩) n n] 34 (some 0)]) 1 1 (some ⟨H2.length, 0, none⟩) = some [.slice (some ⟨h.length, 0, none⟩) n n] := by simp [readSlice, rdN_at0]
    obtain ⟨b', H4, f4, happ, hb', hown, hf1, hf2, hL4, K4⟩ := append_S (fl := h.length) (c := 1) (bytes := 24) hu2 hread (by simp) (by simp) (by simp; omega) (by simp only [roomMax]; omega) (by omega)
    have hnei : ∀ (b : Nat) (cs : List Value) (ow : Option Nat), H2[b]? = some (.cells cs 3 ow) → ∀ n' c', ov ≠ .slice (some ⟨b, 0, none⟩) n' c' := fun b cs ow hb n' c' e => by
      rcases hov.2 with ⟨h1, _⟩ | ⟨b2, s2, h1, h2, h3, _⟩
      · rw [e] at h1; cases h1
      · rw [e] at h1
        simp only [Value.slice.injEq, Option.some.injEq, Addr.mk.injEq] at h1
        obtain ⟨l, hl⟩ := hE2
        rw [h1.1.1, hl, app_of h3] at hb
        cases hb
    have hneH : ∀ (b : Nat), b < lo → ∀ n' c', ov ≠ .slice (some ⟨b, 0, none⟩) n' c' := fun b hb n' c' e => by
      rcases hov.2 with ⟨h1, _⟩ | ⟨b2, s2, h1, h2, h3, _⟩
      · rw [e] at h1; cases h1
      · rw [e] at h1
        simp only [Value.slice.injEq, Option.some.injEq, Addr.mk.injEq] at h1
        omega
    have kB : ∀ (b : Nat) (o : O), b < lo → h[b]? = some o → H4[b]? = some o := fun b o hbl hb => by
      obtain ⟨l, hl⟩ := hE2
      exact K4 b o (by rw [hl, List.append_assoc]; exact app_of hb _) (hneH b hbl)
    have k4 := kB _ _ h5 ho
    have happ2 := happ
    rw [hl2] at happ2
    simp only [hH2, List.append_assoc, List.cons_append, List.nil_append] at happ2
    rw [hfn]
    simp [rd_def, e1, ho, DC_of hcl, bit, List.append_assoc, happ2, wrN_def, k4, endK_ret]
    unfold pairQ back
    rw [if_neg (by simp; omega)]
    refine ⟨rfl, by simp only; omega, ?_, fun b o hbl hb hn1 hn2 => set_ne (kB b o hbl hb) hn1, ⟨buf, set_ne (kB _ _ h4 hb) (Ne.symm h8), hbl, by rw [← hfn]; exact hbt⟩, ?_, by simp at hL4 ⊢; omega⟩
    · simp at hL4 ⊢; omega
    · have hlenL : (Ls ++ visL n 0 buf).length = Ls.length + 1 := by simp [visL]
      refine ⟨_, vs ++ [.slice (some ⟨h.length, 0, none⟩) n n], set_self k4, ?_, fun q hq => ?_⟩
      · rw [hlenL]
        exact hown.keep fun b s e1 e2 => set_ne e2 (by
          simp at e1 hb'
          omega)
      · have hvl : vs.length = Ls.length := by have := hov.1; omega
        by_cases e : q < Ls.length
        · obtain ⟨b, q1, q2, q3⟩ := hP q e
          have hq3 : H2[b]? = some (O.cells (intsC (nthR Ls q)) 3 (some 1)) := by rw [hH2]; exact app_of q3 _
          have hnq : nthR (Ls ++ visL n 0 buf) q = nthR Ls q := by simp [nthR, List.getElem?_append_left e]
          rw [hnq]
          exact ⟨b, by rw [List.getElem?_append_left (by omega)]; exact q1, q2, set_ne (K4 b _ (app_of hq3 _) (hnei b _ _ hq3)) (by omega)⟩
        · have hqe : q = Ls.length := by omega
          have hnq : nthR (Ls ++ visL n 0 buf) q = buf := by simp [nthR, hqe, visL]
          rw [hnq]
          exact ⟨h.length, by rw [List.getElem?_append_right (by omega), hvl, hqe]; simp, by omega, set_ne (K4 _ _ (app_of hin _) (hnei _ _ _ hin)) (by omega)⟩
  | succ m ih =>
    intro h f Ls hfm hf hn0 hbd e1 e2 hI
    refine hE.fnC (body := rb186) rfl ?_
    unfold rb186
    have hlo := hI.lo_
    have hk : f.length < n := by omega
    have hkn : ¬ f.length = n := by omega
    have hkn' : ¬ (f.length : Int) = n := by omega
    simp [rd_def, e1, hkn, hkn']
    have hvl : visL n (m + 1) f = visI n m f n := rfl
    rw [hvl]
    refine DW_loop (fun kk fr st => ∃ (i : Nat) (h' : List O) (f' : Nat), i + kk = n ∧ st = ⟨h', f'⟩ ∧ base ≤ f' ∧ ((h' = h ∧ f' = h.length ∧ visI n m f i = []) ∨ f' < h.length) ∧ h.length ≤ h'.length ∧ (∀ (b : Nat) (o : O), b < lo → h[b]? = some o → b ≠ po → b ≠ B → h'[b]? = some o) ∧ VsI h' lo n B po f.length f (Ls ++ visI n m f i) ∧
      get fr 0 = .slice (some ⟨B, 0, none⟩) f.length n ∧ get fr 1 = .pointer (some ⟨pn, 0, none⟩) ∧ get fr 2 = .pointer (some ⟨po, 0, none⟩) ∧ get fr 3 = .pointer (some ⟨pv, 0, none⟩) ∧ get fr 15 = .int .i64 n ∧ get fr 16 = .int .i64 i) ?_ (k := n) ?_
    · rintro kk fr st ⟨i, h', f', hik, rfl, hbf, hfl, hlen, hkeep, hI', g0, g1, g2, g3, g15, g16⟩
      obtain ⟨buf, hb, hbl, hbt⟩ := hI'.buf
      have hlo' := hI'.lo_
      by_cases hi : i < n
      · have hw : IntKind.i64.wrap ((i : Int) + 1) = (i : Int) + 1 := by rw [w64_id] <;> omega
        have hInt : Ints h' (.slice (some ⟨B, 0, none⟩) f.length n) f := by
          refine ⟨_, B, 0, n, rfl, fun _ => rfl, fun j hj => ?_, fun j => ?_, by omega⟩
          · rw [rd_def, hb, Nat.zero_add]
            simp only [rdO_cells]
            rw [intsC_get (by omega), take_nth hbt rfl hj]
          · by_cases hj : j < f.length
            · have := hf _ (nth_mem hj)
              constructor <;> omega
            · rw [nth_ge (by omega)]; constructor <;> omega
        have hct := containsI_ hE (y := (i : Int)) hInt (by omega)
        by_cases hmem : (i : Int) ∈ f
        · have hvs : visI n m f (i + 1) = visI n m f i := by rw [visI_succ, if_pos hmem, List.append_nil]
          simp [g0, g1, g2, g3, g15, g16, hi, DC_of hct, hmem, hw]
          refine ⟨kk - 1, by omega, i + 1, by omega, h', f', ⟨rfl, rfl⟩, hbf, ?_, hlen, hkeep, ?_, by omega⟩
          · rw [hvs]; exact hfl
          · rw [hvs]; exact hI'
        · have hvs : visI n m f (i + 1) = visI n m f i ++ visL n m (f ++ [(i : Int)]) := by rw [visI_succ, if_neg hmem]
          have hpv := hkeep _ _ h7 e2 h12 h11
          have hpn := hkeep _ _ h6 e1 h10 h9
          have hBl := (List.getElem?_eq_some_iff.1 hb).1
          have hx0 : rdN (h' ++ [O.cells [.int .i64 i] 3 (some 0)]) h'.length 0 1 = some [.int .i64 i] := by simp [rdN_at0]
          have happ := append_fit (el := 3) (bytes := 8) (k := f.length) (c := n) (fl := f') (app_of hb [O.cells [.int .i64 i] 3 (some 0)]) (by omega) (by simp; omega) (by rfl) hx0
          rw [intsC_set] at happ
          obtain ⟨H, hH⟩ : ∃ H, H = (h' ++ [O.cells [.int .i64 i] 3 (some 0)]).set B (.cells (intsC (buf.set f.length i)) 3 (some 0)) := ⟨_, rfl⟩
          have hlH : H.length = h'.length + 1 := by rw [hH, List.length_set]; simp
          rw [← hH] at happ
          have hKH : ∀ (b : Nat) (o : O), h'[b]? = some o → b ≠ B → H[b]? = some o := fun b o hb hn => by rw [hH]; exact set_ne (app_of hb _) hn
          have hHB : H[B]? = some (.cells (intsC (buf.set f.length i)) 3 (some 0)) := by rw [hH]; exact set_self (app_of hb _)
          obtain ⟨ov, vs, ho, hov, hP⟩ := hI'.out
          have hfl1 : (f ++ [(i : Int)]).length = f.length + 1 := by simp
          have hIH : VsI H lo n B po (f ++ [(i : Int)]).length (f ++ [(i : Int)]) (Ls ++ visI n m f i) := by
            refine ⟨⟨_, hHB, by simp [hbl], by rw [hfl1]; exact take_set_snoc hbt (by omega)⟩, ⟨ov, vs, hKH _ _ ho h8, ?_, fun q hq => ?_⟩, by omega⟩
            · refine hov.keep fun b s e1 e2 => hKH _ _ e2 fun e => ?_
              rcases hov.2 with ⟨z1, _⟩ | ⟨b2, s2, z1, z2, z3, _⟩
              · rw [z1] at e1; cases e1
              · rw [z1] at e1
                simp only [Value.slice.injEq, Option.some.injEq, Addr.mk.injEq] at e1
                omega
            · obtain ⟨b, q1, q2, q3⟩ := hP q hq
              exact ⟨b, q1, q2, hKH _ _ q3 (by omega)⟩
          have hvle := visI_le n m f i
          have hmul : (i + 1) * n ^ m ≤ n * n ^ m := Nat.mul_le_mul_right _ (by omega)
          rw [Nat.succ_mul] at hmul
          rw [Nat.pow_succ, Nat.mul_comm] at hbd
          have hcall := ih (h := H) (f := f ++ [(i : Int)]) (Ls := Ls ++ visI n m f i) (by rw [hfl1]; omega) (fun y hy => by
            rcases List.mem_append.1 hy with hy | hy
            · exact hf y hy
            · simp at hy; omega) hn0 (by rw [List.length_append]; omega) (hKH _ _ hpn h9) (hKH _ _ hpv h11) hIH
          rw [hfl1] at hcall
          simp [visV] at hpv
          simp [g0, g1, g2, g3, g15, g16, hi, DC_of hct, hmem, rd_def, hpv, bit, happ, -List.length_append]
          refine ⟨Ne.symm h11, hcall.imp ?_⟩
          rintro o ⟨h4', f4⟩ ⟨rfl, r1, r2, r3, r4⟩
          simp only at r1 r2 r3 r4
          have hjf : ∃ f5, joined ⟨H, min f' B⟩ ⟨h4', f4⟩ = ⟨h4', f5⟩ ∧ base ≤ f5 ∧ f5 < h.length := by
            simp only [joined]
            by_cases c : f4 < H.length
            · rw [if_pos c]; exact ⟨_, rfl, by omega, by omega⟩
            · rw [if_neg c]; exact ⟨_, rfl, by omega, by omega⟩
          obtain ⟨f5, hj5, hj6, hj7⟩ := hjf
          have hl4 : h.length ≤ h4'.length := by omega
          simp [hj5, bit, g0, g1, g2, g3, g15, g16, hw]
          refine ⟨kk - 1, by omega, i + 1, by omega, h4', f5, ⟨rfl, rfl⟩, hj6, .inr hj7, hl4, fun b o hbl hb hn1 hn2 => r3 b o hbl (hKH _ _ (hkeep b o hbl hb hn1 hn2) hn2) hn1 hn2, ?_, by omega⟩
          rw [hvs, ← List.append_assoc]
          obtain ⟨buf2, y1, y2, y3⟩ := r4.buf
          refine ⟨⟨buf2, y1, y2, ?_⟩, r4.out, r4.lo_⟩
          have := congrArg (List.take f.length) y3
          rw [List.take_take, Nat.min_eq_left (by omega), List.take_left] at this
          exact this
      · have hin : i = n := by omega
        subst hin
        simp [g0, g1, g2, g3, g15, g16]
        rcases hfl with ⟨rfl, rfl, hv0⟩ | hfl
        · unfold pairQ
          rw [back_scalar (by rfl) (Nat.le_refl _)]
          exact ⟨rfl, by simp only; omega, Nat.le_refl _, fun b o _ hb _ _ => hb, hI'⟩
        · unfold pairQ back
          rw [if_neg (by simp; omega)]
          exact ⟨rfl, hbf, hlen, hkeep, hI'⟩
    · refine ⟨0, h, h.length, by omega, rfl, by omega, .inl ⟨rfl, rfl, by simp [visI]⟩, Nat.le_refl _, fun b o _ hb _ _ => hb, by simpa [visI] using hI, by simp⟩
end Go.Proofs.Ytjlkndkedknocaa
namespace Go.Ai
def permL (n : Nat) : List (List Int) := visL n n []
end Go.Ai
namespace Go.Proofs.Ytjlkndkedknocaa
open Go Go.Ai
set_option linter.unusedSimpArgs false
set_option linter.unusedVariables false
attribute [local instance] Classical.propDecidable
def PermsP (h : List O) (lo n : Nat) (v : Value) : Prop := ∃ vs, OwnS h lo v (permL n).length vs 34 1 ∧ PrmI h lo n vs (permL n)
theorem PrmI.keep {h h' : List O} {lo n : Nat} {vs : List Value} {Ls : List (List Int)} (k : PrmI h lo n vs Ls) (hk : ∀ (b : Nat) (o : O), lo ≤ b → h[b]? = some o → h'[b]? = some o) : PrmI h' lo n vs Ls := fun q hq => by
  obtain ⟨b, h1, h2, h3⟩ := k q hq
  exact ⟨b, h1, h2, hk b _ h2 h3⟩
theorem PermsP.keep {h h' : List O} {lo n : Nat} {v : Value} (k : PermsP h lo n v) (hk : ∀ (b : Nat) (o : O), lo ≤ b → h[b]? = some o → h'[b]? = some o) : PermsP h' lo n v := by
  obtain ⟨vs, h1, h2⟩ := k
  refine ⟨vs, h1.keep fun b s e1 e2 => ?_, h2.keep hk⟩
  rcases h1.2 with ⟨z1, _⟩ | ⟨b2, s2, z1, z2, z3, _⟩
  · rw [z1] at e1; cases e1
  · rw [z1] at e1
    simp only [Value.slice.injEq, Option.some.injEq, Addr.mk.injEq] at e1
    exact hk b _ (by omega) e2
theorem PermsP.look {h : List O} {lo n : Nat} {v : Value} (k : PermsP h lo n v) : ∃ a, v = .slice a (permL n).length (permL n).length ∧ ∀ q, q < (permL n).length → ∃ b b', a = some ⟨b, 0, none⟩ ∧ lo ≤ b ∧ rdO h[b]? q = some (.slice (some ⟨b', 0, none⟩) n n) ∧ lo ≤ b' ∧ h[b']? = some (.cells (intsC (nthR (permL n) q)) 3 (some 1)) := by
  obtain ⟨vs, ⟨h1, h2⟩, h3⟩ := k
  rcases h2 with ⟨rfl, h0⟩ | ⟨b, s, rfl, hb, hc, _⟩
  · exact ⟨none, by rw [h0], fun q hq => by omega⟩
  · refine ⟨_, rfl, fun q hq => ?_⟩
    obtain ⟨b', r1, r2, r3⟩ := h3 q hq
    exact ⟨b, b', rfl, hb, by rw [hc]; exact r1, r2, r3⟩
variable {E : Env} (hE : OE E)
include hE
theorem permutations_ {h0 : List O} {n : Nat} (hn : 1 ≤ n ∧ n ≤ 6) :
    DC E 132 [.int .i64 n] ⟨h0, h0.length⟩ fun o st' => ∃ v, o = .ret v ∧ Sub h0 st'.h ∧ h0.length ≤ st'.fl ∧ PermsP st'.h h0.length n v := by
  refine hE.fnC (body := rb132) rfl ?_
  unfold rb132
  have e1 : (n : Int) * 8 ≤ 140737488355328 := by omega
  have e2 : (n : Int) < 4611686018427387904 := by omega
  have hrep : rep n [Value.int .i64 0] = intsC (List.replicate n 0) := by simp [rep, intsC]
  have hb1 : one1 (.func (.func 186) #[] #[.pointer (some ⟨h0.length, 0, none⟩), .pointer (some ⟨h0.length + 1, 0, none⟩), .pointer (some ⟨h0.length + 2, 0, none⟩)]) = true := rfl
  have hb2 : (Value.func (.func 186) #[] #[.pointer (some ⟨h0.length, 0, none⟩), .pointer (some ⟨h0.length + 1, 0, none⟩), .pointer (some ⟨h0.length + 2, 0, none⟩)]).cells = #[.func (.func 186) #[] #[.pointer (some ⟨h0.length, 0, none⟩), .pointer (some ⟨h0.length + 1, 0, none⟩), .pointer (some ⟨h0.length + 2, 0, none⟩)]] := rfl
  obtain ⟨H, hH⟩ : ∃ H, H = h0 ++ [O.cells [.int .i64 n] 3 (some 0), .cells [.slice none 0 0] 48 (some 0), .cells [visV h0.length (h0.length + 1) (h0.length + 2)] 226 (some 0), .cells (intsC (List.replicate n 0)) 3 (some 0)] := ⟨_, rfl⟩
  have hlH : H.length = h0.length + 4 := by rw [hH]; simp
  have q0 : H[h0.length]? = some (.cells [.int .i64 n] 3 (some 0)) := by rw [hH, app_at0]; rfl
  have q1 : H[h0.length + 1]? = some (.cells [.slice none 0 0] 48 (some 0)) := by rw [hH, app_at]; rfl
  have q2 : H[h0.length + 2]? = some (.cells [visV h0.length (h0.length + 1) (h0.length + 2)] 226 (some 0)) := by rw [hH, app_at]; rfl
  have q3 : H[h0.length + 3]? = some (.cells (intsC (List.replicate n 0)) 3 (some 0)) := by rw [hH, app_at]; rfl
  have hpow : n ^ n ≤ 46656 := by
    have h1 : n ^ n ≤ 6 ^ n := Nat.pow_le_pow_left hn.2 n
    have h2 : 6 ^ n ≤ 6 ^ 6 := Nat.pow_le_pow_right (by omega) hn.2
    omega
  have hv := visit_ hE (n := n) (lo := h0.length + 4) (base := h0.length) (B := h0.length + 3) (pn := h0.length) (po := h0.length + 1) (pv := h0.length + 2) hn.2 (by omega) (by omega) (by omega) (by omega) (by omega) (by omega) (by omega) (by omega) (by omega) (by omega) (by omega) (by omega)
    n (h := H) (f := []) (Ls := []) (by simp) (fun y hy => by simp at hy) (by omega) (by simp; omega) q0 q2
    ⟨⟨_, q3, by simp, by simp⟩, ⟨.slice none 0 0, [], q1, OwnS.nil _ _ _ _, fun q hq => by simp at hq⟩, by omega⟩
  simp only [visV] at hH
  simp at hv
  simp [e1, e2, hrep, wrN_at, set_at, hb1, hb2, rd_at, rd_at0, bit, List.append_assoc, ← hH, ← hlH]
  refine hv.imp ?_
  rintro o ⟨h4, f4⟩ ⟨rfl, r1, r2, r3, r4⟩
  simp only at r1 r2 r3 r4
  obtain ⟨ov, vs, y1, y2, y3⟩ := r4.out
  have hjf : ∃ f5, joined ⟨H, h0.length⟩ ⟨h4, f4⟩ = ⟨h4, f5⟩ ∧ h0.length ≤ f5 := by
    simp only [joined]
    by_cases c : f4 < H.length
    · rw [if_pos c]; exact ⟨_, rfl, by omega⟩
    · rw [if_neg c]; exact ⟨_, rfl, by omega⟩
  obtain ⟨f5, hj5, hj6⟩ := hjf
  simp [hj5, bit, rd_def, y1, endK_normal]
  unfold pairQ back
  have hP : PermsP h4 h0.length n ov := by
    refine ⟨vs, ?_, fun q hq => ?_⟩
    · obtain ⟨z1, z2⟩ := y2
      refine ⟨z1, ?_⟩
      rcases z2 with z2 | ⟨b, s, a1, a2, a3⟩
      · exact .inl z2
      · exact .inr ⟨b, s, a1, by omega, a3⟩
    · obtain ⟨b, a1, a2, a3⟩ := y3 q hq
      exact ⟨b, a1, by omega, a3⟩
  split
  · rename_i hc
    refine ⟨ov, rfl, Sub.refl _, Nat.le_refl _, ?_⟩
    obtain ⟨a, hov, _⟩ := hP.look
    have hfl : flat ov = true := by
      rw [hov] at hc ⊢
      simp [Out.scalar, scalar, flat1] at hc
      exact hc.1
    have hl0 := flat_len hov hfl
    refine ⟨vs, ⟨y2.1, ?_⟩, fun q hq => by omega⟩
    rcases y2.2 with ⟨z1, z2⟩ | ⟨b, s, a1, a2, a3, a4⟩
    · exact .inl ⟨z1, z2⟩
    · rw [a1] at hfl; simp [flat] at hfl
  · exact ⟨ov, rfl, fun b o hb => by
      have := (List.getElem?_eq_some_iff.1 hb).1
      exact r3 b o (by omega) (by rw [hH]; exact app_of hb _) (by omega) (by omega), hj6, hP⟩
end Go.Proofs.Ytjlkndkedknocaa
