/- Texts that were built one by one: Wc7, Wc8, Wc9, Wd1, Wd2, Wc3, Wd3, Wd4, Wo3, Wo4, Wo5, Wo6, Wl1, Wl2. -/
import Derived.Test.YtjlkndkedknocaaMg
import Derived.Test.YtjlkndkedknocaaMd
import Derived.Test.YtjlkndkedknocaaMf
namespace Go.Proofs.Ytjlkndkedknocaa
open Go Go.Ai
set_option linter.unusedSimpArgs false
set_option linter.unusedVariables false
attribute [local instance] Classical.propDecidable
structure AskI (h : List O) (pI pK pN n : Nat) (A B : List (List Int)) : Prop where
  vI : ∃ v, h[pI]? = some (.cells [v] 48 (some 0)) ∧ Mat h v A
  vK : ∃ v, h[pK]? = some (.cells [v] 48 (some 0)) ∧ Mat h v B
  vN : h[pN]? = some (.cells [.int .i64 n] 3 (some 0))
  rA : RowsOk n A
  rB : RowsOk n B
  len : B.length = A.length
  small : A.length ≤ 100000 ∧ n ≤ 100000
def askV (pI pK pN : Nat) : Value := .func (.func 191) #[] #[.pointer (some ⟨pI, 0, none⟩), .pointer (some ⟨pK, 0, none⟩), .pointer (some ⟨pN, 0, none⟩)]
variable {E : Env} (hE : OE E)
include hE
theorem asks_ {h : List O} {pI pK pN n : Nat} {A B : List (List Int)} {vw : Value} {w : List Int} (hI : AskI h pI pK pN n A B) (hw : Ints h vw w) (hL : LetOk A.length w) :
    DR E 191 [vw, .pointer (some ⟨pI, 0, none⟩), .pointer (some ⟨pK, 0, none⟩), .pointer (some ⟨pN, 0, none⟩)] ⟨h, h.length⟩ (.ret (.bool (!decide (TrivL A B w n)))) ⟨h, h.length⟩ := by
  refine hE.fn (body := rb191) rfl ?_
  unfold rb191
  obtain ⟨v1, e1, m1⟩ := hI.vI
  obtain ⟨v2, e2, m2⟩ := hI.vK
  have e3 := hI.vN
  have ht := isTrivial_ hE m1 m2 hw hI.rA hI.rB hI.len hL hI.small
  simp [rd_def, e1, e2, e3, DC_of ht, endK_ret]
theorem indexF_ {h : List O} {pI pK pN n : Nat} {A B R : List (List Int)} {v : Value} (hI : AskI h pI pK pN n A B) (hR : Mat h v R) (hL : ∀ i, i < R.length → LetOk A.length (nthR R i)) (hlt : R.length < 1000000) :
    DR E 228 [v, askV pI pK pN] ⟨h, h.length⟩ (.ret (.int .i64 (firstI (fun i => !decide (TrivL A B (nthR R i) n)) R.length))) ⟨h, h.length⟩ := by
  refine hE.fn (body := rb228) rfl ?_
  unfold rb228
  obtain ⟨a, b, o, c, vs, rfl, ha, hrd⟩ := hR.at
  simp
  refine DW_loop (fun kk fr st => ∃ (i : Nat), i + kk = R.length ∧ st = ⟨h, h.length⟩ ∧ (∀ j, j < i → TrivL A B (nthR R j) n) ∧ get fr 0 = .slice a R.length c ∧ get fr 1 = askV pI pK pN ∧ get fr 7 = .int .i64 R.length ∧ get fr 8 = .int .i64 i) ?_ (k := R.length) ?_
  · rintro kk fr st ⟨i, hik, rfl, hm, g0, g1, g7, g8⟩
    by_cases hi : i < R.length
    · have hw : IntKind.i64.wrap ((i : Int) + 1) = (i : Int) + 1 := by rw [w64_id] <;> omega
      obtain rfl := ha (by omega)
      obtain ⟨hr1, hr2⟩ := hrd i hi
      have hq := asks_ hE hI hr2 (hL i hi)
      by_cases hy : TrivL A B (nthR R i) n
      · simp [g0, g1, g7, g8, hi, rd_def, hr1, askV, DC_of hq, hy, hw]
        refine ⟨kk - 1, by omega, i + 1, by omega, fun j hj => ?_, by omega⟩
        by_cases e : j = i
        · rw [e]; exact hy
        · exact hm j (by omega)
      · have hf : firstI (fun i => !decide (TrivL A B (nthR R i) n)) R.length = i := firstI_found hi (by simp [hy]) (fun j hj => by simp [hm j hj])
        simp [g0, g1, g7, g8, hi, rd_def, hr1, askV, DC_of hq, hy, endK_ret]
        exact hf.symm
    · have hin : i = R.length := by omega
      subst hin
      have hf : firstI (fun i => !decide (TrivL A B (nthR R i) n)) R.length = -1 := firstI_none (fun j hj => by simp [hm j hj])
      simp [g0, g1, g7, g8, endK_ret]
      exact hf.symm
  · exact ⟨0, by omega, rfl, fun j h => by omega, by simp⟩
theorem containsF_ {h : List O} {pI pK pN n : Nat} {A B R : List (List Int)} {v : Value} (hI : AskI h pI pK pN n A B) (hR : Mat h v R) (hL : ∀ i, i < R.length → LetOk A.length (nthR R i)) (hlt : R.length < 1000000) :
    DR E 190 [v, askV pI pK pN] ⟨h, h.length⟩ (.ret (.bool (!decide (∀ i, i < R.length → TrivL A B (nthR R i) n)))) ⟨h, h.length⟩ := by
  refine hE.fn (body := rb190) rfl ?_
  unfold rb190
  have hi := indexF_ hE hI hR hL hlt
  have hiff : (0 ≤ firstI (fun i => !decide (TrivL A B (nthR R i) n)) R.length) ↔ ¬ ∀ i, i < R.length → TrivL A B (nthR R i) n := by
    rcases firstI_cases (fun i => !decide (TrivL A B (nthR R i) n)) R.length with ⟨i, h1, h2, _, h3⟩ | ⟨h1, h2⟩
    · rw [h3]
      have : ¬ TrivL A B (nthR R i) n := by simpa using h2
      exact ⟨fun _ hall => this (hall i h1), fun _ => by omega⟩
    · rw [h2]
      refine ⟨fun h => by omega, fun h => absurd (fun i hi => ?_) h⟩
      have := h1 i hi
      simpa using this
  by_cases hall : ∀ i, i < R.length → TrivL A B (nthR R i) n
  · have h0 : ¬ 0 ≤ firstI (fun i => !decide (TrivL A B (nthR R i) n)) R.length := fun h => hiff.1 h hall
    rw [decide_eq_true hall]
    generalize firstI (fun i => !decide (TrivL A B (nthR R i) n)) R.length = z at hi h0
    simp [DC_of hi, endK_ret, h0]
  · have h0 := hiff.2 hall
    rw [decide_eq_false hall]
    generalize firstI (fun i => !decide (TrivL A B (nthR R i) n)) R.length = z at hi h0
    simp [DC_of hi, endK_ret, h0]
end Go.Proofs.Ytjlkndkedknocaa
namespace Go.Ai
set_option linter.unusedSimpArgs false
set_option linter.unusedVariables false
attribute [local instance] Classical.propDecidable
def lastW (w : List Int) : Nat := w.foldl (fun m x => max m x.natAbs) 0
def readyL (rels : List (List Int)) (j : Nat) : List (List Int) := rels.filter fun r => lastW r == j
def GoodA (n : Nat) (rels A : List (List Int)) : Prop := ∀ i, i < (readyL rels A.length).length → TrivL A (A.map invL) (nthR (readyL rels A.length) i) n
def sumNat (f : Nat → Nat) : Nat → Nat
  | 0 => 0
  | i + 1 => sumNat f i + f i
theorem sumNat_le {f : Nat → Nat} {M : Nat} : ∀ {n : Nat}, (∀ i, i < n → f i ≤ M) → sumNat f n ≤ n * M := by
  intro n
  induction n with
  | zero => intro _; simp [sumNat]
  | succ n ih =>
    intro h
    have h1 := ih fun i hi => h i (by omega)
    have h2 := h n (by omega)
    simp only [sumNat, Nat.succ_mul]
    omega
noncomputable def cntV (n : Nat) (P rels : List (List Int)) : Nat → List (List Int) → Nat
  | 0, _ => 1
  | m + 1, im => sumNat (fun q => if GoodA n rels (im ++ [nthR P q]) then cntV n P rels m (im ++ [nthR P q]) else 0) P.length
noncomputable def cntI (n : Nat) (P rels : List (List Int)) (m : Nat) (im : List (List Int)) (i : Nat) : Nat := sumNat (fun q => if GoodA n rels (im ++ [nthR P q]) then cntV n P rels m (im ++ [nthR P q]) else 0) i
theorem cntV_le (n : Nat) (P rels : List (List Int)) : ∀ m im, cntV n P rels m im ≤ P.length ^ m := by
  intro m
  induction m with
  | zero => intro im; simp [cntV]
  | succ m ih =>
    intro im
    have := sumNat_le (f := fun q => if GoodA n rels (im ++ [nthR P q]) then cntV n P rels m (im ++ [nthR P q]) else 0) (M := P.length ^ m) (n := P.length) fun q _ => by
      split
      · exact ih _
      · omega
    rw [Nat.pow_succ, Nat.mul_comm]
    exact this
theorem cntI_le (n : Nat) (P rels : List (List Int)) (m : Nat) (im : List (List Int)) (i : Nat) : cntI n P rels m im i ≤ i * P.length ^ m := sumNat_le fun q _ => by
  split
  · exact cntV_le _ _ _ _ _
  · omega
theorem slice_pre {h : List O} {B gl c g : Nat} {cs : List Value} {e : TypeId} (hb : h[B]? = some (.cells cs e (some 0))) (hg : g ≤ c) : sliceV h 1 (.slice (some ⟨B, 0, none⟩) gl c) none (some (.int .i64 g)) none = some (.slice (some ⟨B, 0, none⟩) g c) := by
  have h1 : (g : Int) ≤ c := by omega
  simp [sliceV, mxB, hiB, loB, bound, sliceA, tagOk, hb, h1, hg]
theorem lastW_le {w : List Int} {y : Int} (hy : y ∈ w) : y.natAbs ≤ lastW w := by
  have key : ∀ (l : List Int) (m : Nat), m ≤ l.foldl (fun m x => max m x.natAbs) m ∧ ∀ y ∈ l, y.natAbs ≤ l.foldl (fun m x => max m x.natAbs) m := by
    intro l
    induction l with
    | nil => intro m; exact ⟨Nat.le_refl _, fun y hy => by simp at hy⟩
    | cons z l ih =>
      intro m
      obtain ⟨h1, h2⟩ := ih (max m z.natAbs)
      refine ⟨by simp only [List.foldl_cons]; omega, fun y hy => ?_⟩
      simp only [List.foldl_cons]
      rcases List.mem_cons.1 hy with rfl | hy
      · omega
      · exact h2 y hy
  exact (key w 0).2 y hy
end Go.Ai
namespace Go.Proofs.Ytjlkndkedknocaa
open Go Go.Ai
set_option linter.unusedSimpArgs false
set_option linter.unusedVariables false
attribute [local instance] Classical.propDecidable
def SubX (pI pK B1 B2 pO : Nat) (h h' : List O) : Prop := ∀ (b : Nat) (o : O), h[b]? = some o → b ≠ pI → b ≠ pK → b ≠ B1 → b ≠ B2 → b ≠ pO → h'[b]? = some o
theorem SubX.refl (pI pK B1 B2 pO : Nat) (h : List O) : SubX pI pK B1 B2 pO h h := fun _ _ k _ _ _ _ _ => k
theorem SubX.trans {pI pK B1 B2 pO : Nat} {a b c : List O} (h : SubX pI pK B1 B2 pO a b) (k : SubX pI pK B1 B2 pO b c) : SubX pI pK B1 B2 pO a c := fun x o e h1 h2 h3 h4 h5 => k x o (h x o e h1 h2 h3 h4 h5) h1 h2 h3 h4 h5
theorem SubX.app {pI pK B1 B2 pO : Nat} {h h' : List O} (k : SubX pI pK B1 B2 pO h h') (l : List O) : SubX pI pK B1 B2 pO h (h' ++ l) := fun b o e h1 h2 h3 h4 h5 => app_of (k b o e h1 h2 h3 h4 h5) l
theorem SubX.set {pI pK B1 B2 pO : Nat} {h h' : List O} (k : SubX pI pK B1 B2 pO h h') {b : Nat} (hb : b = pI ∨ b = pK ∨ b = B1 ∨ b = B2 ∨ b = pO) (o : O) : SubX pI pK B1 B2 pO h (h'.set b o) := fun c o' e h1 h2 h3 h4 h5 => set_ne (k c o' e h1 h2 h3 h4 h5) (by omega)
def RowsB (h : List O) (B c n pO : Nat) (A : List (List Int)) : Prop :=
  ∃ cs, h[B]? = some (.cells cs 34 (some 0)) ∧ cs.length = c ∧ ∀ q, q < A.length → ∃ b s, cs[q]? = some (.slice (some ⟨b, 0, none⟩) n n) ∧ b ≠ pO ∧ h[b]? = some (.cells (intsC (nthR A q)) 3 (some s))
theorem RowsB.mat {h : List O} {B c n pO : Nat} {A : List (List Int)} (k : RowsB h B c n pO A) (hA : ∀ q, q < A.length → PermL n (nthR A q)) (hs : A.length ≤ 1000 ∧ n ≤ 1000) : Mat h (.slice (some ⟨B, 0, none⟩) A.length c) A := by
  obtain ⟨cs, h1, h2, h3⟩ := k
  refine ⟨_, B, 0, c, fun q => (cs[q]?).getD undef, rfl, fun _ => rfl, fun q hq => ?_, by omega⟩
  obtain ⟨b, s, r1, _, r2⟩ := h3 q hq
  have hp := hA q hq
  refine ⟨by rw [rd_def, h1, Nat.zero_add]; simp [r1], ?_⟩
  simp only [r1, Option.getD_some]
  refine ⟨_, b, 0, n, by rw [hp.len], fun _ => rfl, fun j hj => by rw [rd_def, r2, Nat.zero_add]; exact intsC_get hj, fun j => ?_, by rw [hp.len]; omega⟩
  by_cases hj : j < (nthR A q).length
  · have := hp.rng j hj
    constructor <;> omega
  · rw [nth_ge (by omega)]; constructor <;> omega
structure DynI (h : List O) (pI pK B1 B2 pO n gens gl : Nat) (c : Int) (A : List (List Int)) : Prop where
  i : h[pI]? = some (.cells [.slice (some ⟨B1, 0, none⟩) gl gens] 48 (some 0))
  k : h[pK]? = some (.cells [.slice (some ⟨B2, 0, none⟩) gl gens] 48 (some 0))
  b1 : RowsB h B1 gens n pO A
  b2 : RowsB h B2 gens n pO (invA A)
  o : h[pO]? = some (.cells [.int .i64 c] 3 (some 0))
theorem nthR_snoc {A : List (List Int)} {f : List Int} {q : Nat} : nthR (A ++ [f]) q = if q < A.length then nthR A q else if q = A.length then f else [] := by
  unfold nthR
  by_cases h : q < A.length
  · rw [if_pos h]; simp [List.getD_eq_getElem?_getD, List.getElem?_append_left h]
  · rw [if_neg h, List.getD_eq_getElem?_getD, List.getElem?_append_right (by omega)]
    by_cases e : q = A.length
    · rw [if_pos e, e]; simp
    · rw [if_neg e, List.getElem?_eq_none (by simp; omega)]; rfl
theorem RowsB.add {h H : List O} {B c n pO b s : Nat} {A : List (List Int)} {f : List Int} {cs : List Value} (hc : h[B]? = some (.cells cs 34 (some 0))) (hl : cs.length = c) (hr : ∀ q, q < A.length → ∃ b s, cs[q]? = some (.slice (some ⟨b, 0, none⟩) n n) ∧ b ≠ pO ∧ h[b]? = some (.cells (intsC (nthR A q)) 3 (some s)))
    (hA : A.length < c) (hH : H[B]? = some (.cells (cs.set A.length (.slice (some ⟨b, 0, none⟩) n n)) 34 (some 0))) (hk : ∀ b' cs' s', h[b']? = some (.cells cs' 3 (some s')) → b' ≠ pO → H[b']? = some (.cells cs' 3 (some s')))
    (hb : b ≠ pO) (hf : H[b]? = some (.cells (intsC f) 3 (some s))) : RowsB H B c n pO (A ++ [f]) := by
  refine ⟨_, hH, by simp [hl], fun q hq => ?_⟩
  simp at hq
  rw [nthR_snoc]
  by_cases e : q < A.length
  · rw [if_pos e]
    obtain ⟨b1, s1, r1, r2, r3⟩ := hr q e
    exact ⟨b1, s1, by rw [List.getElem?_set_ne (by omega)]; exact r1, r2, hk _ _ _ r3 r2⟩
  · have eq : q = A.length := by omega
    rw [if_neg e, if_pos eq, eq]
    exact ⟨b, s, by rw [List.getElem?_set_self (by omega)], hb, hf⟩
theorem RowsB.keep {h h' : List O} {B c n pO : Nat} {A : List (List Int)} (k : RowsB h B c n pO A) (hB : ∀ cs, h[B]? = some (.cells cs 34 (some 0)) → h'[B]? = some (.cells cs 34 (some 0))) (hk : ∀ b' cs' s', h[b']? = some (.cells cs' 3 (some s')) → b' ≠ pO → h'[b']? = some (.cells cs' 3 (some s'))) : RowsB h' B c n pO A := by
  obtain ⟨cs, h1, h2, h3⟩ := k
  refine ⟨cs, hB _ h1, h2, fun q hq => ?_⟩
  obtain ⟨b, s, r1, r2, r3⟩ := h3 q hq
  exact ⟨b, s, r1, r2, hk _ _ _ r3 r2⟩
theorem RowsB.less {h : List O} {B c n pO : Nat} {A : List (List Int)} {f : List Int} (k : RowsB h B c n pO (A ++ [f])) : RowsB h B c n pO A := by
  obtain ⟨cs, h1, h2, h3⟩ := k
  refine ⟨cs, h1, h2, fun q hq => ?_⟩
  obtain ⟨b, s, r1, r2, r3⟩ := h3 q (by simp; omega)
  rw [nthR_snoc, if_pos hq] at r3
  exact ⟨b, s, r1, r2, r3⟩
theorem invA_snoc (A : List (List Int)) (f : List Int) : invA (A ++ [f]) = invA A ++ [invL f] := by simp [invA]
def visV2 (pI pG pY pA pK pR pN pV : Nat) : Value := .func (.func 189) #[] #[.pointer (some ⟨pI, 0, none⟩), .pointer (some ⟨pG, 0, none⟩), .pointer (some ⟨pY, 0, none⟩), .pointer (some ⟨pA, 0, none⟩), .pointer (some ⟨pK, 0, none⟩), .pointer (some ⟨pR, 0, none⟩), .pointer (some ⟨pN, 0, none⟩), .pointer (some ⟨pV, 0, none⟩)]
structure FixI (E : Env) (h : List O) (aa : Option Addr) (pG pY pA pR pN pV pO k n gens : Nat) (vV : Value) (rels : List (List Int)) : Prop where
  g : ∃ vr, h[pG]? = some (.cells [.int .i64 gens, vr] 81 (some 0))
  y : h[pY]? = some (.cells [tok k] 219 (some 0))
  a : h[pA]? = some (.cells [.slice aa (permL n).length (permL n).length] 48 (some 0))
  rows : ∀ q, q < (permL n).length → ∃ b b', aa = some ⟨b, 0, none⟩ ∧ rdO h[b]? q = some (.slice (some ⟨b', 0, none⟩) n n) ∧ b' ≠ pO ∧ h[b']? = some (.cells (intsC (nthR (permL n) q)) 3 (some 1))
  r : ∃ Rb rv, h[pR]? = some (.cells [.slice (some ⟨Rb, 0, none⟩) (gens + 1) (gens + 1)] 129 (some 0)) ∧ h[Rb]? = some (.cells rv 48 (some 0)) ∧ ∀ j, j < gens + 1 → ∃ v, rv[j]? = some v ∧ Mat h v (readyL rels j)
  n_ : h[pN]? = some (.cells [.int .i64 n] 3 (some 0))
  v : h[pV]? = some (.cells [vV] 25 (some 0))
  call : ∀ (v : Value) (c : Int), h[pO]? = some (.cells [.int .i64 c] 3 (some 0)) → 0 ≤ c ∧ c ≤ 10000000000 → DR E (yB + k) [v] ⟨h, h.length⟩ (.ret (.bool true)) ⟨h.set pO (.cells [.int .i64 (c + 1)] 3 (some 0)), min pO k⟩
end Go.Proofs.Ytjlkndkedknocaa
namespace Go.Proofs.Ytjlkndkedknocaa
open Go Go.Ai
set_option linter.unusedSimpArgs false
set_option linter.unusedVariables false
attribute [local instance] Classical.propDecidable
variable {E : Env} (hE : OE E)
include hE
theorem visit2_ {hV : List O} {aa : Option Addr} {pI pG pY pA pK pR pN pV pO B1 B2 k n gens base : Nat} {rels : List (List Int)} (hn : 1 ≤ n ∧ n ≤ 6) (hgens : gens ≤ 600)
    (hPerm : ∀ q, q < (permL n).length → PermL n (nthR (permL n) q)) (hlet : ∀ r ∈ rels, LetOk (lastW r) r) (hrels : rels.length < 1000000)
    (hfix : ∀ h, SubX pI pK B1 B2 pO hV h → hV.length ≤ h.length → FixI E h aa pG pY pA pR pN pV pO k n gens (visV2 pI pG pY pA pK pR pN pV) rels)
    (hb : base ≤ pI ∧ base ≤ pK ∧ base ≤ B1 ∧ base ≤ B2 ∧ base ≤ pO ∧ base ≤ k) (hl : pI < hV.length ∧ pK < hV.length ∧ B1 < hV.length ∧ B2 < hV.length ∧ pO < hV.length ∧ k < hV.length) (hbl : base ≤ hV.length)
    (d1 : pI ≠ pK) (d2 : pI ≠ B1) (d3 : pI ≠ B2) (d4 : pI ≠ pO) (d5 : pK ≠ B1) (d6 : pK ≠ B2) (d7 : pK ≠ pO) (d8 : B1 ≠ B2) (d9 : B1 ≠ pO) (d10 : B2 ≠ pO) :
    ∀ (m : Nat) {h : List O} {im : List (List Int)} {c : Int}, im.length + m = gens → (∀ q, q < im.length → PermL n (nthR im q)) → SubX pI pK B1 B2 pO hV h → hV.length ≤ h.length → DynI h pI pK B1 B2 pO n gens im.length c im → 0 ≤ c → c + ((permL n).length ^ m : Nat) ≤ 10000000000 →
      DC E 189 [.pointer (some ⟨pI, 0, none⟩), .pointer (some ⟨pG, 0, none⟩), .pointer (some ⟨pY, 0, none⟩), .pointer (some ⟨pA, 0, none⟩), .pointer (some ⟨pK, 0, none⟩), .pointer (some ⟨pR, 0, none⟩), .pointer (some ⟨pN, 0, none⟩), .pointer (some ⟨pV, 0, none⟩)] ⟨h, h.length⟩ fun o st' =>
        o = .ret (.bool true) ∧ base ≤ st'.fl ∧ st'.fl < hV.length ∧ h.length ≤ st'.h.length ∧ SubX pI pK B1 B2 pO h st'.h ∧ DynI st'.h pI pK B1 B2 pO n gens im.length (c + cntV n (permL n) rels m im) im := by
  intro m
  induction m with
  | zero =>
    intro h im c hm him hs hlen hD hc0 hc1
    refine hE.fnC (body := rb189) rfl ?_
    unfold rb189
    have hF := hfix h hs hlen
    obtain ⟨vr, fg⟩ := hF.g
    have fy := hF.y
    have e1 := hD.i
    have hgl : im.length = gens := by omega
    rw [hgl] at e1
    have hcall := hF.call (.slice (some ⟨B1, 0, none⟩) gens gens) c hD.o ⟨hc0, by omega⟩
    have hfl : min pO k < h.length := by omega
    have hjd : joined ⟨h, h.length⟩ ⟨h.set pO (.cells [.int .i64 (c + 1)] 3 (some 0)), min pO k⟩ = ⟨h.set pO (.cells [.int .i64 (c + 1)] 3 (some 0)), min pO k⟩ := by
      simp only [joined]
      rw [if_pos hfl]
      congr 1
      omega
    simp [rd_def, e1, fg, fy, tok, DC_of hcall, hjd, endK_ret]
    unfold pairQ back
    rw [if_neg (by simp; omega)]
    refine ⟨rfl, by simp only; omega, by simp only; omega, by simp, (SubX.refl _ _ _ _ _ _).set (by omega) _, set_ne hD.i d4, set_ne hD.k d7, ?_, ?_, ?_⟩
    · obtain ⟨cs, r1, r2, r3⟩ := hD.b1
      exact ⟨cs, set_ne r1 d9, r2, fun q hq => by
        obtain ⟨b, s, y1, y2, y3⟩ := r3 q hq
        exact ⟨b, s, y1, y2, set_ne y3 y2⟩⟩
    · obtain ⟨cs, r1, r2, r3⟩ := hD.b2
      exact ⟨cs, set_ne r1 d10, r2, fun q hq => by
        obtain ⟨b, s, y1, y2, y3⟩ := r3 q hq
        exact ⟨b, s, y1, y2, set_ne y3 y2⟩⟩
    · simp only [cntV]
      exact set_self hD.o
  | succ m ih =>
    intro h im c hm him hs hlen hD hc0 hc1
    refine hE.fnC (body := rb189) rfl ?_
    unfold rb189
    have hF := hfix h hs hlen
    obtain ⟨vr, fg⟩ := hF.g
    have e1 := hD.i
    obtain ⟨g, hg⟩ : ∃ g, g = im.length := ⟨_, rfl⟩
    rw [← hg] at e1 hm him ⊢
    have hgn : g < gens := by omega
    have hgne : ¬ g = gens := by omega
    have hgne' : ¬ (g : Int) = gens := by omega
    have fa := hF.a
    simp [rd_def, e1, fg, hgne, hgne', fa]
    have hcv : cntV n (permL n) rels (m + 1) im = cntI n (permL n) rels m im (permL n).length := rfl
    rw [hcv]
    refine DW_loop (fun kk fr st => ∃ (i : Nat) (h' : List O) (f' gl : Nat), i + kk = (permL n).length ∧ st = ⟨h', f'⟩ ∧ base ≤ f' ∧ f' ≤ h.length ∧ h.length ≤ h'.length ∧ SubX pI pK B1 B2 pO h h' ∧ DynI h' pI pK B1 B2 pO n gens gl (c + cntI n (permL n) rels m im i) im ∧
      get fr 0 = .pointer (some ⟨pI, 0, none⟩) ∧ get fr 4 = .pointer (some ⟨pK, 0, none⟩) ∧ get fr 5 = .pointer (some ⟨pR, 0, none⟩) ∧ get fr 6 = .pointer (some ⟨pN, 0, none⟩) ∧ get fr 7 = .pointer (some ⟨pV, 0, none⟩) ∧ get fr 9 = .int .i64 g ∧ get fr 22 = .slice aa (permL n).length (permL n).length ∧ get fr 23 = .int .i64 (permL n).length ∧ get fr 24 = .int .i64 i) ?_ (k := (permL n).length) ?_
    · rintro kk fr st ⟨i, h', f', gl, hik, rfl, hf1, hf2, hlen', hX, hD', g0, g4, g5, g6, g7, g9, g22, g23, g24⟩
      have hX' : SubX pI pK B1 B2 pO hV h' := hs.trans hX
      have i1 := hD'.i
      have i2 := hD'.k
      obtain ⟨c1, x1, x2, x3⟩ := hD'.b1
      obtain ⟨c2, y1, y2, y3⟩ := hD'.b2
      by_cases hi : i < (permL n).length
      · have hw : IntKind.i64.wrap ((i : Int) + 1) = (i : Int) + 1 := by
          rw [w64_id]
          · omega
          · have := visL_le n n []
            have h1 : n ^ n ≤ 6 ^ n := Nat.pow_le_pow_left hn.2 n
            have h2 : 6 ^ n ≤ 6 ^ 6 := Nat.pow_le_pow_right (by omega) hn.2
            have h3 : (permL n).length ≤ n ^ n := this
            omega
        obtain ⟨b, b', rfl, r1, r2, r3⟩ := (hfix h' hX' (by omega)).rows i hi
        obtain ⟨f, hf⟩ : ∃ f, f = nthR (permL n) i := ⟨_, rfl⟩
        have hfp : PermL n f := by rw [hf]; exact hPerm i hi
        rw [← hf] at r3
        have hbB : ∀ (q : Nat) (cs cs' : List Value) (s s' : Option Nat) (e : TypeId), h'[q]? = some (.cells cs 3 s) → ∀ p, h'[p]? = some (.cells cs' e s') → e ≠ 3 → q ≠ p := fun q cs cs' s s' e hq p hp hne hqp => by
          subst hqp; rw [hp] at hq; simp at hq; exact hne hq.2.1
        have n1 : b' ≠ B1 := hbB _ _ _ _ _ _ r3 _ x1 (by decide)
        have n2 : b' ≠ B2 := hbB _ _ _ _ _ _ r3 _ y1 (by decide)
        have n3 : b' ≠ pI := hbB _ _ _ _ _ _ r3 _ i1 (by decide)
        have n4 : b' ≠ pK := hbB _ _ _ _ _ _ r3 _ i2 (by decide)
        have sl1 := slice_pre (gl := gl) (c := gens) (g := g) x1 (by omega)
        have lB1 := (List.getElem?_eq_some_iff.1 x1).1
        have lB2 := (List.getElem?_eq_some_iff.1 y1).1
        have lpI := (List.getElem?_eq_some_iff.1 i1).1
        have lpK := (List.getElem?_eq_some_iff.1 i2).1
        have lb' := (List.getElem?_eq_some_iff.1 r3).1
        have lpO := (List.getElem?_eq_some_iff.1 hD'.o).1
        obtain ⟨H1, hH1⟩ : ∃ H1, H1 = h' ++ [O.cells [.slice (some ⟨b', 0, none⟩) n n] 34 (some 0)] := ⟨_, rfl⟩
        have l1 : H1.length = h'.length + 1 := by rw [hH1]; simp
        have K1 : ∀ (b : Nat) (o : O), h'[b]? = some o → H1[b]? = some o := fun b o hb => by rw [hH1]; exact app_of hb _
        have hx1 : rdN H1 h'.length 0 1 = some [.slice (some ⟨b', 0, none⟩) n n] := by rw [hH1]; simp [rdN_at0]
        have happ1 := append_fit (el := 34) (bytes := 24) (k := g) (c := gens) (fl := f') (K1 _ _ x1) (by omega) (by omega) (by rfl) hx1
        obtain ⟨H2, hH2⟩ : ∃ H2, H2 = H1.set B1 (.cells (c1.set g (.slice (some ⟨b', 0, none⟩) n n)) 34 (some 0)) := ⟨_, rfl⟩
        rw [← hH2] at happ1
        have l2 : H2.length = h'.length + 1 := by rw [hH2, List.length_set, l1]
        have K2 : ∀ (b : Nat) (o : O), h'[b]? = some o → b ≠ B1 → H2[b]? = some o := fun b o hb hn => by rw [hH2]; exact set_ne (K1 _ _ hb) hn
        have r3' := K2 _ _ r3 n1
        have hInt : Ints H2 (.slice (some ⟨b', 0, none⟩) n n) f := by
          refine ⟨_, b', 0, n, by rw [hfp.len], fun _ => rfl, fun j hj => by rw [rd_def, r3', Nat.zero_add]; exact intsC_get hj, fun j => ?_, by rw [hfp.len]; omega⟩
          by_cases hj : j < f.length
          · have := hfp.rng j hj
            constructor <;> omega
          · rw [nth_ge (by omega)]; constructor <;> omega
        have hinv := inverse_ hE hInt (by rw [hfp.len]; exact hfp.rng) (by rw [hfp.len]; omega)
        rw [hfp.len] at hinv
        obtain ⟨H3, hH3⟩ : ∃ H3, H3 = H2 ++ [O.cells (intsC (invL f)) 3 (some 0)] := ⟨_, rfl⟩
        rw [← hH3] at hinv
        have l3 : H3.length = H2.length + 1 := by rw [hH3]; simp
        obtain ⟨H4, hH4⟩ : ∃ H4, H4 = H3 ++ [O.cells [.slice (some ⟨H2.length, 0, none⟩) n n] 34 (some 0)] := ⟨_, rfl⟩
        have l4 : H4.length = H3.length + 1 := by rw [hH4]; simp
        have K4 : ∀ (b : Nat) (o : O), h'[b]? = some o → b ≠ B1 → H4[b]? = some o := fun b o hb hn => by rw [hH4, hH3]; exact app_of (app_of (K2 _ _ hb hn) _) _
        have hx4 : rdN H4 H3.length 0 1 = some [.slice (some ⟨H2.length, 0, none⟩) n n] := by rw [hH4]; simp [rdN_at0]
        have happ2 := append_fit (el := 34) (bytes := 24) (k := g) (c := gens) (fl := min f' B1) (K4 _ _ y1 (Ne.symm d8)) (by omega) (by omega) (by rfl) hx4
        obtain ⟨H5, hH5⟩ : ∃ H5, H5 = H4.set B2 (.cells (c2.set g (.slice (some ⟨H2.length, 0, none⟩) n n)) 34 (some 0)) := ⟨_, rfl⟩
        rw [← hH5] at happ2
        have K5 : ∀ (b : Nat) (o : O), h'[b]? = some o → b ≠ B1 → b ≠ B2 → H5[b]? = some o := fun b o hb hn hn2 => by rw [hH5]; exact set_ne (K4 _ _ hb hn) hn2
        have j1 := K5 _ _ i1 d2 d3
        have j2 := K5 _ _ i2 d5 d6
        have i2' := K2 _ _ i2 d5
        have sl2 := slice_pre (gl := gl) (c := gens) (g := g) (K2 _ _ y1 (Ne.symm d8)) (by omega)
        obtain ⟨H6, hH6⟩ : ∃ H6, H6 = H5.set pI (.cells [.slice (some ⟨B1, 0, none⟩) (g + 1) gens] 48 (some 0)) := ⟨_, rfl⟩
        have j2' : H6[pK]? = some (.cells [.slice (some ⟨B2, 0, none⟩) gl gens] 48 (some 0)) := by rw [hH6]; exact set_ne j2 (Ne.symm d1)
        obtain ⟨H7, hH7⟩ : ∃ H7, H7 = H6.set pK (.cells [.slice (some ⟨B2, 0, none⟩) (g + 1) gens] 48 (some 0)) := ⟨_, rfl⟩
        have l7 : H7.length = h'.length + 3 := by rw [hH7, List.length_set, hH6, List.length_set, hH5, List.length_set]; omega
        have K7 : ∀ (b : Nat) (o : O), h'[b]? = some o → b ≠ pI → b ≠ pK → b ≠ B1 → b ≠ B2 → H7[b]? = some o := fun b o hb m1 m2 m3 m4 => by rw [hH7, hH6]; exact set_ne (set_ne (K5 _ _ hb m3 m4) m1) m2
        have hX7 : SubX pI pK B1 B2 pO h H7 := hX.trans fun b o hb m1 m2 m3 m4 _ => K7 b o hb m1 m2 m3 m4
        have hF7 := hfix H7 (hs.trans hX7) (by omega)
        have q1 : H7[pI]? = some (.cells [.slice (some ⟨B1, 0, none⟩) (g + 1) gens] 48 (some 0)) := by rw [hH7, hH6]; exact set_ne (set_self j1) d1
        have q2 : H7[pK]? = some (.cells [.slice (some ⟨B2, 0, none⟩) (g + 1) gens] 48 (some 0)) := by rw [hH7]; exact set_self j2'
        have q3 : H7[B1]? = some (.cells (c1.set g (.slice (some ⟨b', 0, none⟩) n n)) 34 (some 0)) := by
          rw [hH7, hH6, hH5, hH4, hH3]
          refine set_ne (set_ne (set_ne (app_of (app_of ?_ _) _) d8) (Ne.symm d2)) (Ne.symm d5)
          rw [hH2]; exact set_self (K1 _ _ x1)
        have q4 : H7[B2]? = some (.cells (c2.set g (.slice (some ⟨H2.length, 0, none⟩) n n)) 34 (some 0)) := by
          rw [hH7, hH6]
          refine set_ne (set_ne ?_ (Ne.symm d3)) (Ne.symm d6)
          rw [hH5]; exact set_self (K4 _ _ y1 (Ne.symm d8))
        have q5 : H7[H2.length]? = some (O.cells (intsC (invL f)) 3 (some 0)) := by
          rw [hH7, hH6, hH5, hH4]
          refine set_ne (set_ne (set_ne (app_of ?_ _) (by omega)) (by omega)) (by omega)
          rw [hH3, app_at0]; rfl
        have hkint : ∀ b' cs' s', h'[b']? = some (.cells cs' 3 (some s')) → b' ≠ pO → H7[b']? = some (.cells cs' 3 (some s')) := fun p cs' s' hp _ => K7 _ _ hp (hbB _ _ _ _ _ _ hp _ i1 (by decide)) (hbB _ _ _ _ _ _ hp _ i2 (by decide)) (hbB _ _ _ _ _ _ hp _ x1 (by decide)) (hbB _ _ _ _ _ _ hp _ y1 (by decide))
        have hiA : (invA im).length = g := by rw [invA_length]; exact hg.symm
        have R1 : RowsB H7 B1 gens n pO (im ++ [f]) := RowsB.add x1 x2 x3 (by omega) (by rw [← hg]; exact q3) hkint r2 (hkint _ _ _ r3 r2)
        have R2 : RowsB H7 B2 gens n pO (invA im ++ [invL f]) := RowsB.add y1 y2 y3 (by omega) (by rw [hiA]; exact q4) hkint (by omega) q5
        rw [← invA_snoc] at R2
        have hlen1 : (im ++ [f]).length = g + 1 := by simp; omega
        have hD7 : DynI H7 pI pK B1 B2 pO n gens (im ++ [f]).length (c + cntI n (permL n) rels m im i) (im ++ [f]) := ⟨by rw [hlen1]; exact q1, by rw [hlen1]; exact q2, R1, R2, K7 _ _ hD'.o (Ne.symm d4) (Ne.symm d7) (Ne.symm d9) (Ne.symm d10)⟩
        have him7 : ∀ q, q < (im ++ [f]).length → PermL n (nthR (im ++ [f]) q) := fun q hq => by
          rw [nthR_snoc]
          by_cases e : q < im.length
          · rw [if_pos e]; exact him q (by omega)
          · rw [if_neg e, if_pos (by omega)]; exact hfp
        have himI : ∀ q, q < (invA (im ++ [f])).length → PermL n (nthR (invA (im ++ [f])) q) := fun q hq => by
          rw [invA_length] at hq
          rw [invA_at hq]
          exact (him7 q hq).inv
        have hM1 := R1.mat him7 ⟨by omega, by omega⟩
        have hM2 := R2.mat himI ⟨by rw [invA_length]; omega, by omega⟩
        rw [hlen1] at hM1
        rw [invA_length, hlen1] at hM2
        have hAsk : AskI H7 pI pK pN n (im ++ [f]) (invA (im ++ [f])) := ⟨⟨_, q1, hM1⟩, ⟨_, q2, hM2⟩, hF7.n_, fun k hk => ⟨(him7 k hk).len, (him7 k hk).rng⟩, fun k hk => ⟨(himI k hk).len, (himI k hk).rng⟩, invA_length _, by omega, by omega⟩
        obtain ⟨Rb, rv, f1, f2, f3⟩ := hF7.r
        obtain ⟨vr2, f4, f5⟩ := f3 (g + 1) (by omega)
        have hLet : ∀ i, i < (readyL rels (g + 1)).length → LetOk (im ++ [f]).length (nthR (readyL rels (g + 1)) i) := fun j hj => by
          obtain ⟨m1, m2⟩ := List.mem_filter.1 (show nthR (readyL rels (g + 1)) j ∈ rels.filter (fun r => lastW r == g + 1) from nthR_mem hj)
          have hlw : lastW (nthR (readyL rels (g + 1)) j) = g + 1 := by simpa using m2
          have h := hlet _ m1
          rw [hlw] at h
          rw [hlen1]
          exact h
        have hrl : (readyL rels (g + 1)).length < 1000000 := by
          have : (readyL rels (g + 1)).length ≤ rels.length := List.length_filter_le _ _
          omega
        have hct := containsF_ hE hAsk f5 hLet hrl
        have hgood : (∀ i, i < (readyL rels (g + 1)).length → TrivL (im ++ [f]) (invA (im ++ [f])) (nthR (readyL rels (g + 1)) i) n) ↔ GoodA n rels (im ++ [f]) := by unfold GoodA; rw [hlen1]; exact Iff.rfl
        have hwg : IntKind.i64.wrap ((g : Int) + 1) = (g : Int) + 1 := by rw [w64_id] <;> omega
        simp only [askV] at hct
        have hg1 : (g : Int) + 1 < (gens : Int) + 1 := by omega
        have hg0 : (0 : Int) ≤ (g : Int) + 1 := by omega
        have hgt : ((g : Int) + 1).toNat = g + 1 := by omega
        have hcI : cntI n (permL n) rels m im (i + 1) = cntI n (permL n) rels m im i + (if GoodA n rels (im ++ [f]) then cntV n (permL n) rels m (im ++ [f]) else 0) := by rw [hf]; rfl
        by_cases hG : GoodA n rels (im ++ [f])
        · rw [decide_eq_true (hgood.2 hG)] at hct
          have hfv := hF7.v
          simp only [visV2] at hfv
          simp [g0, g4, g5, g6, g7, g9, g22, g23, g24, hi, rd_def, r1, i1, sl1, ← hH1, happ1, i2', sl2, DC_of hinv, ← hH4, happ2, bit, wrN_def, j1, ← hH6, j2', ← hH7, f1, f2, f4, hwg, hg1, hg0, hgt, DC_of hct, hfv, -List.length_append]
          have hvle := cntI_le n (permL n) rels m im i
          have hmul : (i + 1) * (permL n).length ^ m ≤ (permL n).length * (permL n).length ^ m := Nat.mul_le_mul_right _ (by omega)
          rw [Nat.succ_mul] at hmul
          rw [Nat.pow_succ, Nat.mul_comm ((permL n).length ^ m)] at hc1
          refine ⟨Ne.symm d5, d8, (ih (h := H7) (im := im ++ [f]) (c := c + cntI n (permL n) rels m im i) (by rw [hlen1]; omega) him7 (hs.trans hX7) (by omega) hD7 (by omega) (by omega)).imp ?_⟩
          rintro o ⟨h8, f8⟩ ⟨rfl, p1, p2, p3, p4, p5⟩
          simp only at p1 p2 p3 p4 p5
          have hj8 : ∀ F, joined ⟨H7, F⟩ ⟨h8, f8⟩ = ⟨h8, min F f8⟩ := fun F => by simp only [joined]; rw [if_pos (by omega)]
          simp [hj8, g0, g4, g5, g6, g7, g9, g22, g23, g24, hw]
          rw [hlen1] at p5
          refine ⟨kk - 1, by omega, i + 1, by omega, h8, _, ⟨rfl, rfl⟩, by omega, by omega, by omega, hX7.trans p4, ⟨g + 1, p5.i, p5.k, p5.b1.less, ?_, ?_⟩, by omega⟩
          · have := p5.b2
            rw [invA_snoc] at this
            exact this.less
          · rw [hcI, if_pos hG]
            have := p5.o
            rw [show (c + ((cntI n (permL n) rels m im i + cntV n (permL n) rels m (im ++ [f]) : Nat) : Int)) = c + (cntI n (permL n) rels m im i : Int) + (cntV n (permL n) rels m (im ++ [f]) : Int) by omega]
            exact this
        · rw [decide_eq_false (fun h => hG (hgood.1 h))] at hct
          simp [g0, g4, g5, g6, g7, g9, g22, g23, g24, hi, rd_def, r1, i1, sl1, ← hH1, happ1, i2', sl2, DC_of hinv, ← hH4, happ2, bit, wrN_def, j1, ← hH6, j2', ← hH7, f1, f2, f4, hwg, hg1, hg0, hgt, DC_of hct, hw, -List.length_append]
          refine ⟨Ne.symm d5, d8, kk - 1, by omega, i + 1, by omega, H7, _, ⟨rfl, rfl⟩, by omega, by omega, by omega, hX7, ⟨g + 1, q1, q2, R1.less, ?_, ?_⟩, by omega⟩
          · rw [invA_snoc] at R2
            exact R2.less
          · rw [hcI, if_neg hG]
            exact hD7.o
      · have hin : i = (permL n).length := by omega
        subst hin
        have sl1 := slice_pre (gl := gl) (c := gens) (g := g) x1 (by omega)
        have sl2 := slice_pre (gl := gl) (c := gens) (g := g) y1 (by omega)
        have i2' := fun o => set_ne (x := o) i2 (Ne.symm d1)
        simp [g0, g4, g5, g6, g7, g9, g22, g23, g24, rd_def, i1, i2, sl1, sl2, bit, wrN_def, i2', d1, Ne.symm d1, d2, d3, d5, d6, Ne.symm d2, Ne.symm d3, Ne.symm d5, Ne.symm d6, endK_ret]
        unfold pairQ back
        rw [if_neg (by simp; omega)]
        have lpI := (List.getElem?_eq_some_iff.1 i1).1
        have hkint : ∀ (b' : Nat) cs' s', h'[b']? = some (O.cells cs' 3 (some s')) → b' ≠ pI ∧ b' ≠ pK := fun p cs' s' hp => by
          constructor
          · intro e; subst e; rw [hp] at i1; simp at i1
          · intro e; subst e; rw [hp] at i2; simp at i2
        refine ⟨rfl, by simp only; omega, by simp only; omega, by simp; exact hlen', (hX.set (by omega) _).set (by omega) _, set_ne (set_self i1) d1, set_self (set_ne i2 (Ne.symm d1)), hD'.b1.keep (fun cs e => set_ne (set_ne e (Ne.symm d2)) (Ne.symm d5)) (fun p cs' s' hp _ => set_ne (set_ne hp (hkint _ _ _ hp).1) (hkint _ _ _ hp).2), hD'.b2.keep (fun cs e => set_ne (set_ne e (Ne.symm d3)) (Ne.symm d6)) (fun p cs' s' hp _ => set_ne (set_ne hp (hkint _ _ _ hp).1) (hkint _ _ _ hp).2), set_ne (set_ne hD'.o (Ne.symm d4)) (Ne.symm d7)⟩
    · exact ⟨0, h, h.length, g, by omega, rfl, by omega, Nat.le_refl _, Nat.le_refl _, SubX.refl _ _ _ _ _ _, by simpa [cntI, sumNat, ← hg] using hD, by simp⟩
end Go.Proofs.Ytjlkndkedknocaa
namespace Go.Ai
set_option linter.unusedSimpArgs false
set_option linter.unusedVariables false
theorem readyL_snoc (R : List (List Int)) (r : List Int) (j : Nat) : readyL (R ++ [r]) j = if lastW r = j then readyL R j ++ [r] else readyL R j := by
  unfold readyL
  rw [List.filter_append]
  by_cases h : lastW r = j
  · rw [if_pos h]; simp [h]
  · rw [if_neg h]; simp [h]
theorem readyL_le (R : List (List Int)) (j : Nat) : (readyL R j).length ≤ R.length := List.length_filter_le _ _
theorem lastW_take {w : List Int} {i : Nat} (h : i < w.length) : lastW (w.take (i + 1)) = max (lastW (w.take i)) (nth w i).natAbs := by
  unfold lastW
  rw [List.take_add_one, List.getElem?_eq_getElem h, List.foldl_append, nth_eq h]
  rfl
end Go.Ai
namespace Go.Proofs.Ytjlkndkedknocaa
open Go Go.Ai
set_option linter.unusedSimpArgs false
set_option linter.unusedVariables false
attribute [local instance] Classical.propDecidable
def ReadyS (hb h : List O) (lo : Nat) (v : Value) (R : List (List Int)) : Prop :=
  ∃ ws, OwnS h lo v R.length ws 34 1 ∧ ∀ q, q < R.length → ∃ w, ws[q]? = some w ∧ Ints hb w (nthR R q)
theorem ReadyS.mat {hb h : List O} {lo : Nat} {v : Value} {R : List (List Int)} (k : ReadyS hb h lo v R) (hs : ∀ w xs, Ints hb w xs → Ints h w xs) (hl : R.length < 2 ^ 62) : Mat h v R := by
  obtain ⟨ws, ⟨h1, h2⟩, h3⟩ := k
  rcases h2 with ⟨rfl, h0⟩ | ⟨b, s, rfl, hb, hc, _⟩
  · have : R = [] := List.length_eq_zero_iff.1 h0
    subst this
    exact ⟨none, 0, 0, 0, fun _ => undef, rfl, fun h => absurd h (by simp), fun i hi => absurd hi (by simp), by simp⟩
  · refine ⟨_, b, 0, R.length, fun q => (ws[q]?).getD undef, rfl, fun _ => rfl, fun q hq => ?_, hl⟩
    obtain ⟨w, r1, r2⟩ := h3 q hq
    exact ⟨by rw [rd_def, hc, Nat.zero_add]; simp [r1], by simp only [r1, Option.getD_some]; exact hs _ _ r2⟩
theorem ReadyS.keep {hb h h' : List O} {lo : Nat} {v : Value} {R : List (List Int)} (k : ReadyS hb h lo v R) (hk : ∀ b n c, v = .slice (some ⟨b, 0, none⟩) n c → lo ≤ b → ∀ o, h[b]? = some o → h'[b]? = some o) : ReadyS hb h' lo v R := by
  obtain ⟨ws, h1, h3⟩ := k
  refine ⟨ws, h1.keep fun b s e1 e2 => ?_, h3⟩
  rcases h1.2 with ⟨z1, _⟩ | ⟨b2, s2, z1, z2, z3, _⟩
  · rw [z1] at e1; cases e1
  · have e1' := e1
    rw [z1] at e1
    simp only [Value.slice.injEq, Option.some.injEq, Addr.mk.injEq] at e1
    exact hk b _ _ e1' (by omega) _ e2
structure RdI (hb h : List O) (lo Rb gens : Nat) (R : List (List Int)) (rv : List Value) : Prop where
  at_ : h[Rb]? = some (.cells rv 48 (some 0))
  len : rv.length = gens + 1
  lt : Rb < lo
  lo_ : lo ≤ h.length
  each : ∀ j, j < gens + 1 → ∃ v, rv[j]? = some v ∧ ReadyS hb h lo v (readyL R j)
  apart : ∀ (j j' b n c n' c' : Nat), j ≠ j' → rv[j]? = some (Value.slice (some ⟨b, 0, none⟩) n c) → rv[j']? = some (Value.slice (some ⟨b, 0, none⟩) n' c') → False
theorem ReadyS.blk {hb h : List O} {lo : Nat} {v : Value} {R : List (List Int)} (k : ReadyS hb h lo v R) : (v = .slice none 0 0 ∧ R = []) ∨ ∃ b, v = .slice (some ⟨b, 0, none⟩) R.length R.length ∧ lo ≤ b ∧ b < h.length := by
  obtain ⟨ws, ⟨h1, h2⟩, h3⟩ := k
  rcases h2 with ⟨rfl, h0⟩ | ⟨b, s, rfl, hb, hc, _⟩
  · exact .inl ⟨rfl, List.length_eq_zero_iff.1 h0⟩
  · exact .inr ⟨b, rfl, hb, (List.getElem?_eq_some_iff.1 hc).1⟩
theorem RdI.add {hb h : List O} {lo Rb gens fl : Nat} {R : List (List Int)} {rv : List Value} {r : List Int} {w : Value} (hI : RdI hb h lo Rb gens R rv) (hw : Ints hb w r) (hw1 : one1 w = true) (hl : lastW r < gens + 1) (hR : R.length ≤ 100000) :
    ∃ v, rv[lastW r]? = some v ∧ (v = .slice none 0 0 ∨ ∃ b n, v = .slice (some ⟨b, 0, none⟩) n n ∧ lo ≤ b) ∧ ∃ b' n' H4 f4, appendV 34 1 24 v (.slice (some ⟨h.length, 0, none⟩) 1 1) ⟨h ++ [.cells [w] 34 (some 0)], fl⟩ = some (.slice (some ⟨b', 0, none⟩) n' n', ⟨H4, f4⟩) ∧ min fl lo ≤ f4 ∧ f4 ≤ fl ∧
      (∀ (b : Nat) (o : O), b < lo → h[b]? = some o → H4[b]? = some o) ∧ h.length ≤ H4.length ∧
      RdI hb (H4.set Rb (.cells (rv.set (lastW r) (.slice (some ⟨b', 0, none⟩) n' n')) 48 (some 0))) lo Rb gens (R ++ [r]) (rv.set (lastW r) (.slice (some ⟨b', 0, none⟩) n' n')) := by
  obtain ⟨v, hv, hS⟩ := hI.each _ hl
  have hblk := hS.blk
  have hS' := hS
  obtain ⟨ws, hown0, hrows⟩ := hS'
  have hread : readSlice (h ++ [.cells [w] 34 (some 0)]) 1 1 (some ⟨h.length, 0, none⟩) = some [w] := by simp [readSlice, rdN_at0]
  have hrl := readyL_le R (lastW r)
  have hlo := hI.lo_
  obtain ⟨b', H4, f4, happ, hb', hown, hf1, hf2, hL4, K4⟩ := append_S (fl := fl) (c := 1) (bytes := 24) (hown0.ext (Ext.snoc h [.cells [w] 34 (some 0)])) hread (by simp) (by simp [hw1]) (by simp; omega) (by simp only [roomMax]; omega) (by omega)
  have hbase : ∀ (b : Nat) (o : O), (∀ n c, v ≠ .slice (some ⟨b, 0, none⟩) n c) → h[b]? = some o → H4[b]? = some o := fun b o hn hb => K4 b o (app_of hb _) hn
  have hlow : ∀ b, b < lo → ∀ n c, v ≠ .slice (some ⟨b, 0, none⟩) n c := fun b hb n c e => by
    rcases hblk with ⟨z, _⟩ | ⟨b2, z, z2, _⟩
    · rw [z] at e; cases e
    · rw [z] at e
      simp only [Value.slice.injEq, Option.some.injEq, Addr.mk.injEq] at e
      omega
  have hRb := hI.lt
  have hb'' : h.length + 1 ≤ b' := by simpa using hb'
  have hL4' : h.length + 1 ≤ H4.length := by simpa using hL4
  refine ⟨v, hv, ?_, b', _, H4, f4, happ, hf1, hf2, fun b o hb ho => hbase b o (hlow b hb) ho, by omega, ?_⟩
  · rcases hblk with ⟨z, _⟩ | ⟨b2, z, z2, _⟩
    · exact .inl z
    · exact .inr ⟨b2, _, z, z2⟩
  refine ⟨set_self (hbase _ _ (hlow _ hRb) hI.at_), by simp [hI.len], hRb, by simp; omega, fun j hj => ?_, fun j j' b n c n' c' hne e1 e2 => ?_⟩
  · rw [readyL_snoc]
    by_cases e : j = lastW r
    · rw [e, if_pos rfl]
      refine ⟨_, List.getElem?_set_self (by rw [hI.len]; exact hl), ws ++ [w], ?_, fun q hq => ?_⟩
      · have : OwnS H4 lo (.slice (some ⟨b', 0, none⟩) ((readyL R (lastW r)).length + 1) ((readyL R (lastW r)).length + 1)) (readyL R (lastW r) ++ [r]).length (ws ++ [w]) 34 1 := by simpa using hown
        exact this.keep fun b s z1 z2 => set_ne z2 (by simp at z1; omega)
      · have hwl : ws.length = (readyL R (lastW r)).length := by have := hown0.1; omega
        simp at hq
        by_cases eq : q < (readyL R (lastW r)).length
        · obtain ⟨w', r1, r2⟩ := hrows q eq
          refine ⟨w', by rw [List.getElem?_append_left (by omega)]; exact r1, ?_⟩
          rw [nthR_snoc, if_pos eq]; exact r2
        · have eq2 : q = (readyL R (lastW r)).length := by omega
          refine ⟨w, by rw [List.getElem?_append_right (by omega), hwl, eq2]; simp, ?_⟩
          rw [nthR_snoc, if_neg eq, if_pos eq2]; exact hw
    · rw [if_neg (Ne.symm e)]
      obtain ⟨v2, q1, q2⟩ := hI.each j hj
      refine ⟨v2, by rw [List.getElem?_set_ne (Ne.symm e)]; exact q1, q2.keep fun b n c z1 z2 o z3 => set_ne (hbase b o (fun n' c' z4 => ?_) z3) (by omega)⟩
      rw [z1] at q1
      rw [z4] at hv
      exact hI.apart j (lastW r) b n c n' c' e q1 hv
  · have hnew : ∀ j b n c, j ≠ lastW r → rv[j]? = some (.slice (some ⟨b, 0, none⟩) n c) → b < h.length := fun j b n c hj hz => by
      have hjl := (List.getElem?_eq_some_iff.1 hz).1
      rw [hI.len] at hjl
      obtain ⟨v2, q1, q2⟩ := hI.each j hjl
      rw [hz] at q1
      obtain rfl := Option.some.inj q1
      rcases q2.blk with ⟨z, _⟩ | ⟨b2, z, _, z2⟩
      · cases z
      · simp only [Value.slice.injEq, Option.some.injEq, Addr.mk.injEq] at z
        omega
    by_cases ej : j = lastW r
    · rw [ej, List.getElem?_set_self (by rw [hI.len]; exact hl)] at e1
      simp only [Option.some.injEq, Value.slice.injEq, Addr.mk.injEq] at e1
      rw [List.getElem?_set_ne (by omega)] at e2
      have := hnew j' b n' c' (by omega) e2
      omega
    · rw [List.getElem?_set_ne (Ne.symm ej)] at e1
      by_cases ej' : j' = lastW r
      · rw [ej', List.getElem?_set_self (by rw [hI.len]; exact hl)] at e2
        simp only [Option.some.injEq, Value.slice.injEq, Addr.mk.injEq] at e2
        have := hnew j b n c ej e1
        omega
      · rw [List.getElem?_set_ne (Ne.symm ej')] at e2
        exact hI.apart j j' b n c n' c' hne e1 e2
end Go.Proofs.Ytjlkndkedknocaa
namespace Go.Ai
set_option linter.unusedSimpArgs false
set_option linter.unusedVariables false
theorem DC.kept {E : Env} (hS : SumsKept E) {f : FuncId} {args : List Value} {st : St} {Q : Out → St → Prop} (h : DC E f args st Q) : DC E f args st fun o st' => Q o st' ∧ Kept st st' := by
  obtain ⟨o, st', ⟨n, h1⟩, h2⟩ := h
  exact ⟨o, st', ⟨n, h1⟩, h2, callKept_of hS (exec_kept hS n) _ _ _ _ _ h1⟩
theorem visL_perm {n : Nat} : ∀ (m : Nat) (f : List Int), f.length + m = n → InN n f → (∀ i j, i < j → j < f.length → nth f i ≠ nth f j) → ∀ g ∈ visL n m f, PermL n g := by
  intro m
  induction m with
  | zero =>
    intro f hl hi hd g hg
    simp only [visL, List.mem_singleton] at hg
    subst hg
    exact ⟨by omega, hi, fun i j h1 h2 => hd i j h1 (by omega)⟩
  | succ m ih =>
    intro f hl hi hd g hg
    simp only [visL, List.mem_flatMap, List.mem_range] at hg
    obtain ⟨x, hx, hg⟩ := hg
    split at hg
    · simp at hg
    · rename_i hnot
      have hs : ∀ i, nth (f ++ [(x : Int)]) i = if i < f.length then nth f i else if i = f.length then (x : Int) else 0 := fun i => by
        unfold nth
        by_cases h : i < f.length
        · rw [if_pos h]; simp [List.getD_eq_getElem?_getD, List.getElem?_append_left h]
        · rw [if_neg h, List.getD_eq_getElem?_getD, List.getElem?_append_right (by omega)]
          by_cases e : i = f.length
          · rw [if_pos e, e]; simp
          · rw [if_neg e, List.getElem?_eq_none (by simp; omega)]; rfl
      refine ih _ (by simp; omega) (fun i hi' => ?_) (fun i j h1 h2 => ?_) g hg
      · rw [hs]
        simp at hi'
        by_cases h : i < f.length
        · rw [if_pos h]; exact hi i h
        · rw [if_neg h, if_pos (by omega)]; omega
      · simp at h2
        rw [hs, hs, if_pos (by omega)]
        by_cases h : j < f.length
        · rw [if_pos h]; exact hd i j h1 h
        · rw [if_neg h, if_pos (by omega)]
          intro e
          exact hnot (e ▸ nth_mem (by omega))
theorem permL_perm {n q : Nat} (h : q < (permL n).length) : PermL n (nthR (permL n) q) :=
  visL_perm n [] (by simp) (fun i hi => by simp at hi) (fun i j _ h => by simp at h) _ (nthR_mem h)
theorem permL_le {n : Nat} (hn : n ≤ 6) : (permL n).length ≤ 46656 := by
  have h0 := visL_le n n []
  have h1 : n ^ n ≤ 6 ^ n := Nat.pow_le_pow_left hn n
  have h2 : 6 ^ n ≤ 6 ^ 6 := Nat.pow_le_pow_right (by omega) hn
  have h3 : (permL n).length ≤ n ^ n := h0
  omega
end Go.Ai
namespace Go.Proofs.Ytjlkndkedknocaa
open Go Go.Ai
set_option linter.unusedSimpArgs false
set_option linter.unusedVariables false
attribute [local instance] Classical.propDecidable
variable {E : Env} (hE : OE E)
include hE
theorem round57 {h : List O} {k pO : Nat} {frL : Fr} {v : Value} {c : Int} (hk : h[k]? = some (.loop false 43 frL [39] (lcA 57 0) (lcB 57 0))) (g9 : get frL 9 = .pointer (some ⟨pO, 0, none⟩)) (hO : h[pO]? = some (.cells [.int .i64 c] 3 (some 0))) (hc : 0 ≤ c ∧ c ≤ 10000000000) :
    DR E (yB + k) [v] ⟨h, h.length⟩ (.ret (.bool true)) ⟨h.set pO (.cells [.int .i64 (c + 1)] 3 (some 0)), min pO k⟩ := by
  have n1 : k ≠ pO := fun e => by subst e; rw [hk] at hO; cases hO
  have lk := (List.getElem?_eq_some_iff.1 hk).1
  have lO := (List.getElem?_eq_some_iff.1 hO).1
  have hDC : DC E (yB + k) [v] ⟨h, h.length⟩ fun o st' => o = .ret (.bool true) ∧ st' = ⟨h.set pO (.cells [.int .i64 (c + 1)] 3 (some 0)), min pO k⟩ := by
    refine DC_yield (hE.Y k) hk rfl hE.c57_0a hE.c57_0b ?_
    unfold ra57_0
    simp [putAll]
    refine ⟨_, turn_eq hk, ?_⟩
    unfold rl57_0
    obtain ⟨H1, hH1⟩ : ∃ H, H = h.set k (O.loop (!false) 43 frL [39] (lcA 57 0) (lcB 57 0)) := ⟨_, rfl⟩
    have hO1 : H1[pO]? = some (.cells [.int .i64 c] 3 (some 0)) := by rw [hH1]; exact set_ne hO (Ne.symm n1)
    have hk1 : H1[k]? = some (O.loop (!false) 43 frL [39] (lcA 57 0) (lcB 57 0)) := by rw [hH1]; exact set_self hk
    have hw : IntKind.i64.wrap (c + 1) = c + 1 := by rw [w64_id] <;> omega
    rw [← hH1]
    simp [g9, rd_def, hO1, hw, wrN_def]
    have hk2 : (H1.set pO (.cells [.int .i64 (c + 1)] 3 (some 0)))[k]? = some (O.loop (!false) 43 frL [39] (lcA 57 0) (lcB 57 0)) := set_ne hk1 n1
    have ht := turn_eq (f := min h.length (min k pO)) hk2
    simp only [Bool.not_false, Bool.not_true] at ht
    rw [ht]
    have hm : min (min h.length (min k pO)) k = min pO k := by omega
    rw [hm]
    congr 2
    apply List.ext_getElem?
    intro i
    rw [hH1]
    simp only [List.getElem?_set, List.length_set]
    by_cases e1 : k = i
    · subst e1
      simp [lk, Ne.symm n1, hk]
      have := (List.getElem?_eq_some_iff.1 hk).2
      exact this.symm
    · simp [e1]
  obtain ⟨o, st', h1, rfl, rfl⟩ := hDC
  exact h1
end Go.Proofs.Ytjlkndkedknocaa
namespace Go.Ai
theorem Sub.rdO {h h' : List O} (hs : Sub h h') {b i : Nat} {v : Value} (hr : rdO h[b]? i = some v) : rdO h'[b]? i = some v := by
  rw [← rd_def] at hr ⊢
  exact hs.rd hr
end Go.Ai
namespace Go.Proofs.Ytjlkndkedknocaa
open Go Go.Ai
set_option linter.unusedSimpArgs false
set_option linter.unusedVariables false
attribute [local instance] Classical.propDecidable
def InvI (h : List O) (lo n : Nat) (A : List (List Int)) (i : Nat) (vs : List Value) : Prop :=
  ∀ q, q < i → ∃ b, vs[q]? = some (.slice (some ⟨b, 0, none⟩) n n) ∧ lo ≤ b ∧ h[b]? = some (.cells (intsC (invL (nthR A q))) 3 (some 0))
theorem InvI.mat {h : List O} {lo n i : Nat} {A : List (List Int)} {vs : List Value} {uv : Value} (hR : InvI h lo n A i vs) (hu : OwnS h lo uv i vs 34 1) (hi : A.length = i) (hrow : ∀ q, q < i → (nthR A q).length = n ∧ PermL n (nthR A q)) (hn : n ≤ 1000 ∧ i ≤ 1000) : Mat h uv (invA A) := by
  have hlA : (invA A).length = i := by rw [invA_length, hi]
  rcases hu.2 with ⟨h1, h2⟩ | ⟨b, su, h1, h2, h3, _⟩
  · have : invA A = [] := List.length_eq_zero_iff.1 (by omega)
    rw [h1, this]
    exact ⟨none, 0, 0, 0, fun _ => undef, rfl, fun h => absurd h (by simp), fun i hi => absurd hi (by simp), by simp⟩
  · refine ⟨some ⟨b, 0, none⟩, b, 0, i, fun q => (vs[q]?).getD undef, by rw [h1, hlA], fun _ => rfl, fun q hq => ?_, by omega⟩
    obtain ⟨b', r1, r2, r3⟩ := hR q (by omega)
    refine ⟨by rw [rd_def, h3]; simp [r1], ?_⟩
    rw [invA_at (by omega)]
    simp only [r1, Option.getD_some]
    obtain ⟨k1, k2⟩ := hrow q (by omega)
    have hinv := k2.inv
    refine ⟨some ⟨b', 0, none⟩, b', 0, n, by rw [hinv.len], fun _ => rfl, fun j hj => ?_, fun j => ?_, by rw [hinv.len]; omega⟩
    · rw [rd_def, r3]
      simp only [rdO_cells, Nat.zero_add]
      exact intsC_get hj
    · by_cases hj : j < (invL (nthR A q)).length
      · have := hinv.rng j hj
        constructor <;> omega
      · rw [nth_ge (by omega)]; constructor <;> omega
variable {E : Env} (hE : OE E)
include hE
theorem checkW_ {h0 : List O} {a : Option Addr} {n c : Nat} {x : Nat → Nat → Int} {s : Nat → Int} {L : Int} {vA : Value} {A : List (List Int)} (hx : CrossP h0 a n x s) (hA : Mat h0 vA A) (hroom : ∀ i, i < A.length → (nthR A i).length * 8 ≤ roomMax) :
    DR E 67 [dV a n c L, vA] ⟨h0, h0.length⟩ (.ret (.int .i64 (if kindD n x s L ≠ 0 then kindD n x s L else checkD (dgOf n x s L) A))) ⟨h0, h0.length⟩ := by
  refine hE.fn (body := rb67) rfl ?_
  unfold rb67
  have hx1 : CrossP (h0 ++ [O.cells [.slice a n c, .int .i64 L] 24 (some 0)]) a n x s := hx.ext (Ext.snoc _ _)
  have h1 := check_ hE (c := c) (L := L) hx1
  simp [dV] at h1
  by_cases hk : kindD n x s L = 0
  · have h2 := newLinkC_ hE (c := c) hx1 hk
    simp [dV] at h2
    have hS := (kind_zero hk).1
    simp [dV, rdN_at0, joined_fl, DC_of h1, hk]
    refine h2.imp ?_
    rintro o ⟨h3, f3⟩ ⟨pl, rfl, hp, hf, hs, hl⟩
    simp only at hf hs hl
    have hs0 : Sub h0 h3 := ((Sub.refl h0).app _).trans hs
    simp [joined_fl, hf]
    refine (presentation_ hE hl hS).imp ?_
    rintro o ⟨h4, f4⟩ ⟨v, rfl, hs4, hf4, hM⟩
    simp only at hf4 hs4 hM
    have hM0 := hM.mat
    have hone : one1 v = true := by obtain ⟨va, vb, vo, vc, vvs, hv, hvr⟩ := hM0; rw [hv]; rfl
    have hl3 := hs.len
    simp at hl3
    have hl4 := hs4.len
    have hmin4 : min h0.length h4.length = h0.length := by omega
    obtain ⟨G, hGe⟩ : ∃ G, G = dgOf n x s L := ⟨_, rfl⟩
    have hG : GoodG G := by rw [hGe]; exact good_of hS
    have hGn : G.n = n := by rw [hGe]; rfl
    have hGL : G.L = L := by rw [hGe]; rfl
    rw [← hGe] at hM hM0 ⊢
    have hac := arC_le G
    have hsz := hG.size
    have hloops := hG.loops
    rw [hGL] at hloops
    obtain ⟨H, hH⟩ : ∃ H, H = h4 ++ [O.cells [.int .i64 (arC G + L), v] 81 (some 0)] := ⟨_, rfl⟩
    have hlH : H.length = h4.length + 1 := by rw [hH]; simp
    have hsH : Sub h4 H := by rw [hH]; exact (Sub.refl _).app _
    have hs0H : Sub h0 H := (hs0.trans hs4).trans hsH
    have q6 : H[h4.length]? = some (.cells [.int .i64 (arC G + L), v] 81 (some 0)) := by rw [hH, app_at0]; rfl
    obtain ⟨aa, ab, ao, ac, avs, rfl, ha, har⟩ := hA.at
    unfold checkD
    rw [hGL]
    have hq6' : ∀ l, (H ++ l)[h4.length]? = _ := fun l => app_of q6 l
    by_cases hg : (A.length : Int) = arC G + L
    · have hg' : (arC G : Int) + L = (A.length : Int) := hg.symm
      rw [if_pos hg]
      rw [hg'] at hH q6 
      simp [joined_fl, hf4, wrN_at0, hone, set_at0, hmin4, hg', ← hH, rd_def, q6]
      have hsc : ∀ z : Int, (Out.ret (.int .i64 z)).scalar = true := fun _ => rfl
      have hA600 : A.length ≤ 600 := by omega
      have hrow0 := fun (hpos : 0 < A.length) => har 0 hpos
      refine DW_loop (fun kk fr st => ∃ (i : Nat) (h : List O) (uv : Value) (vs : List Value), i + kk = A.length ∧ st = ⟨h, h0.length⟩ ∧ Sub H h ∧ OwnS h H.length uv i vs 34 1 ∧ InvI h H.length (nthR A 0).length A i vs ∧ (∀ q, q < i → (nthR A q).length = (nthR A 0).length ∧ PermB (nthR A q)) ∧
        get fr 1 = .slice aa A.length ac ∧ get fr 6 = .pointer (some ⟨h4.length, 0, none⟩) ∧ get fr 7 = uv ∧ get fr 25 = .slice aa A.length ac ∧ get fr 26 = .int .i64 A.length ∧ get fr 27 = .int .i64 i) ?_ (k := A.length) ?_
      · rintro kk fr st ⟨i, h, uv, vs, hik, rfl, hsub, hu, hR, hok, g1, g6, g7, g25, g26, g27⟩
        have hs0h : Sub h0 h := hs0H.trans hsub
        have hhl := hsub.len
        by_cases hi : i < A.length
        · have hw : IntKind.i64.wrap ((i : Int) + 1) = (i : Int) + 1 := by rw [w64_id] <;> omega
          obtain rfl := ha (by omega)
          obtain ⟨r1, r2⟩ := har i hi
          obtain ⟨r3, r4⟩ := har 0 (by omega)
          have r1' := hs0h.rdO r1
          have r3' := hs0h.rdO r3
          simp only [Nat.add_zero] at r3'
          have r2' := r2.sub hs0h
          have hpi := isPerm_ hE r2' (hroom i hi)
          obtain ⟨ra, rb, ro, rc, hrv, _, _⟩ := r2.at
          obtain ⟨sa, sb, so, sc, hsv, _, _⟩ := r4.at
          rw [hrv] at r1' hpi
          rw [hsv] at r3'
          have hpos : 0 < A.length := by omega
          by_cases hlen : (nthR A i).length = (nthR A 0).length
          · rw [hlen] at hpi
            by_cases hP : PermB (nthR A i)
            · have hrng : InN (nthR A i).length (nthR A i) := hP.1.rng
              have hinv := inverse_ hE r2' hrng (by have := hP.2.2; omega)
              rw [hrv, hlen] at hinv
              obtain ⟨H2, hH2⟩ : ∃ H2, H2 = h ++ [O.cells (intsC (invL (nthR A i))) 3 (some 0)] := ⟨_, rfl⟩
              have hl2 : H2.length = h.length + 1 := by rw [hH2]; simp
              have hE2 : Ext h H2 := by rw [hH2]; exact Ext.snoc _ _
              have hin : H2[h.length]? = some (O.cells (intsC (invL (nthR A i))) 3 (some 0)) := by rw [hH2, app_at0]; rfl
              have hu2 : OwnS (H2 ++ [.cells [.slice (some ⟨h.length, 0, none⟩) (nthR A i).length (nthR A i).length] 34 (some 0)]) H.length uv i vs 34 1 := hu.ext (hE2.trans (Ext.snoc _ _))
              have hread : readSlice (H2 ++ [.cells [.slice (some ⟨h.length, 0, none⟩) (nthR A i).length (nthR A i).length] 34 (some 0)]) 1 1 (some ⟨H2.length, 0, none⟩) = some [.slice (some ⟨h.length, 0, none⟩) (nthR A i).length (nthR A i).length] := by simp [readSlice, rdN_at0]
              obtain ⟨b', H4, f4, happ, hb', hown, hf1, hf2, hL4, K4⟩ := append_S (fl := h0.length) (c := 1) (bytes := 24) hu2 hread (by simp) (by simp) (by simp; omega) (by simp only [roomMax]; omega) (by omega)
              obtain rfl : f4 = h0.length := by omega
              have hnei : ∀ (b : Nat) (cs : List Value) (ow : Option Nat), H2[b]? = some (.cells cs 3 ow) → ∀ n' c', uv ≠ .slice (some ⟨b, 0, none⟩) n' c' := fun b cs ow hb n' c' e => by
                rcases hu.2 with ⟨h1, _⟩ | ⟨b2, s2, h1, h2, h3, _⟩
                · rw [e] at h1; cases h1
                · rw [e] at h1
                  simp only [Value.slice.injEq, Option.some.injEq, Addr.mk.injEq] at h1
                  obtain ⟨l, hl⟩ := hE2
                  rw [h1.1.1, hl, app_of h3] at hb
                  cases hb
              have hneH : ∀ (b : Nat), b < H.length → ∀ n' c', uv ≠ .slice (some ⟨b, 0, none⟩) n' c' := fun b hb n' c' e => by
                rcases hu.2 with ⟨h1, _⟩ | ⟨b2, s2, h1, h2, h3, _⟩
                · rw [e] at h1; cases h1
                · rw [e] at h1
                  simp only [Value.slice.injEq, Option.some.injEq, Addr.mk.injEq] at h1
                  omega
              have happ2 := happ
              rw [hl2] at happ2
              simp only [hlen, hH2, List.append_assoc, List.cons_append, List.nil_append] at happ2
              simp [g1, g6, g7, g25, g26, g27, hi, rd_def, r1', r3', hpos, hlen, DC_of hpi, hP, DC_of hinv, List.append_assoc, happ2, hw]
              have hrowlen : ∀ q, q < i + 1 → (nthR A q).length = (nthR A 0).length ∧ PermB (nthR A q) := fun q hq => by
                by_cases e : q = i
                · rw [e]; exact ⟨hlen, hP⟩
                · exact hok q (by omega)
              rw [hlen] at hown
              refine ⟨kk - 1, by omega, i + 1, by omega, fun b o hb => ?_, _, vs ++ [.slice (some ⟨h.length, 0, none⟩) (nthR A 0).length (nthR A 0).length], hown, fun q hq => ?_, hrowlen, rfl, by omega⟩
              · have := (List.getElem?_eq_some_iff.1 hb).1
                obtain ⟨l, hl⟩ := hE2
                exact K4 b o (by rw [hl, List.append_assoc]; exact app_of (hsub b o hb) _) (hneH b this)
              · have hvl : vs.length = i := by have := hu.1; omega
                by_cases e : q < i
                · obtain ⟨b, q1, q2, q3⟩ := hR q e
                  have hq3 : H2[b]? = some (O.cells (intsC (invL (nthR A q))) 3 (some 0)) := by rw [hH2]; exact app_of q3 _
                  exact ⟨b, by rw [List.getElem?_append_left (by omega)]; exact q1, q2, K4 b _ (app_of hq3 _) (hnei b _ _ hq3)⟩
                · have hqi : q = i := by omega
                  subst hqi
                  exact ⟨h.length, by rw [List.getElem?_append_right (by omega), hvl]; simp, by omega, K4 _ _ (app_of hin _) (hnei _ _ _ hin)⟩
            · have hno : ¬ PermsA A := fun h => hP (h i hi).2
              simp [g1, g6, g7, g25, g26, g27, hi, rd_def, r1', r3', hpos, hlen, DC_of hpi, hP, hno, endK_ret, back_scalar, hsc]
          · have hno : ¬ PermsA A := fun h => hlen (h i hi).1
            simp [g1, g6, g7, g25, g26, g27, hi, rd_def, r1', r3', hpos, hlen, hno, endK_ret, back_scalar, hsc]
        · have hin : i = A.length := by omega
          subst hin
          have hP : PermsA A := hok
          have hmA := hA.sub hs0h
          have hmB := InvI.mat hR hu rfl (fun q hq => ⟨(hok q hq).1, by rw [← (hok q hq).1]; exact (hok q hq).2.1⟩) ⟨by
            rcases Nat.eq_zero_or_pos A.length with h | h
            · have : A = [] := List.length_eq_zero_iff.1 h
              rw [this]; simp [nthR]
            · have := (hok 0 h).2.2.2; omega, by omega⟩
          have q6h := hsub _ _ q6
          have hmv := hM0.sub (hsH.trans hsub)
          obtain ⟨va, vb, vo, vc, vvs, rfl, hva, hvr⟩ := hmv.at
          rw [relL_length, hGn] at hva hvr q6h
          obtain ⟨ba, bb, bo, bc, bvs, hbv, _, _⟩ := hmB.at
          rw [if_pos hP]
          have hs0m := fun (hpos : 0 < A.length) => hs0h.rdO (har 0 hpos).1
          simp [g1, g6, g7, g25, g26, g27, rd_def, q6h]
          refine DW_loop (fun kk fr st => ∃ (m : Nat), m + kk = n ∧ st = ⟨h, h0.length⟩ ∧ (∀ q, q < m → TrivL A (invA A) (relOf G q) (nthR A 0).length) ∧
            get fr 1 = .slice aa A.length ac ∧ get fr 7 = uv ∧ get fr 50 = .slice va n vc ∧ get fr 51 = .int .i64 n ∧ get fr 52 = .int .i64 m) ?_ (k := n) ?_
          · clear g1 g6 g7 g25 g26 g27
            rintro kk fr st ⟨m, hmk, rfl, htr, g1, g7, g50, g51, g52⟩
            by_cases hm : m < n
            · have hw : IntKind.i64.wrap ((m : Int) + 1) = (m : Int) + 1 := by rw [w64_id] <;> omega
              obtain rfl := hva (by omega)
              obtain ⟨p1, p2⟩ := hvr m hm
              rw [relL_nth (by rw [hGn]; exact hm)] at p2
              have hgp := arN_lt (hG.X m 0 (by rw [hGn]; exact hm) (by omega))
              have hpos : 0 < A.length := by omega
              obtain rfl := ha hpos
              have r3' := hs0m hpos
              simp only [Nat.add_zero] at r3'
              obtain ⟨sa, sb, so, sc, hsv, _, _⟩ := ((har 0 hpos).2).at
              rw [hsv] at r3'
              have hn200 := (hok 0 hpos).2.2.2
              have htv := isTrivial_ hE hmA hmB p2 hP.rows hP.inv (invA_length A) (relOf_let hG (by rw [hGn]; exact hm) (by omega)) ⟨by omega, by omega⟩
              by_cases ht : TrivL A (invA A) (relOf G m) (nthR A 0).length
              · simp [g1, g7, g50, g51, g52, hm, rd_def, p1, hpos, r3', DC_of htv, ht, hw]
                refine ⟨kk - 1, by omega, m + 1, by omega, fun q hq => ?_, by omega⟩
                by_cases e : q = m
                · rw [e]; exact ht
                · exact htr q (by omega)
              · have hno : ¬ HomA G A := fun hh => ht (hh m (by rw [hGn]; exact hm))
                simp [g1, g7, g50, g51, g52, hm, rd_def, p1, hpos, r3', DC_of htv, ht, hno, endK_ret, back_scalar, hsc]
            · have hmn : m = n := by omega
              subst hmn
              have hyes : HomA G A := fun q hq => htr q (by rw [hGn] at hq; exact hq)
              simp [g1, g7, g50, g51, g52, hyes, endK_ret, back_scalar, hsc]
          · exact ⟨0, by omega, rfl, fun q h => by omega, by simp [g1, g7]⟩
      · exact ⟨0, H, .slice none 0 0, [], by omega, rfl, Sub.refl _, OwnS.nil _ _ _ _, fun q hq => by omega, fun q hq => by omega, by simp⟩
    · rw [if_neg hg]
      simp [joined_fl, hf4, wrN_at0, hone, set_at0, hmin4, ← hH, rd_def, q6, hg, endK_ret, back_scalar, Out.scalar, scalar, flat1, flat]
  · simp [dV, rdN_at0, joined_fl, DC_of h1, hk, endK_ret, back_scalar, Out.scalar, scalar, flat1, flat]
end Go.Proofs.Ytjlkndkedknocaa
namespace Go.Proofs.Ytjlkndkedknocaa
open Go Go.Ai
set_option linter.unusedSimpArgs false
set_option linter.unusedVariables false
attribute [local instance] Classical.propDecidable
theorem lastW_lt {w : List Int} {gens : Nat} (h : LetOk gens w) : lastW w < gens + 1 := by
  have key : ∀ i, i ≤ w.length → lastW (w.take i) ≤ gens := by
    intro i
    induction i with
    | zero => intro _; simp [lastW]
    | succ i ih =>
      intro hi
      have h1 := ih (by omega)
      have h2 := h i (by omega)
      rw [lastW_take (by omega)]
      omega
  have := key w.length (Nat.le_refl _)
  rw [List.take_length] at this
  omega
theorem RdI.nil {hb h : List O} {lo Rb gens : Nat} (h1 : h[Rb]? = some (.cells (List.replicate (gens + 1) (.slice none 0 0)) 48 (some 0))) (h2 : Rb < lo) (h3 : lo ≤ h.length) : RdI hb h lo Rb gens [] (List.replicate (gens + 1) (.slice none 0 0)) := by
  refine ⟨h1, by simp, h2, h3, fun j hj => ⟨.slice none 0 0, by rw [List.getElem?_replicate, if_pos hj], [], OwnS.nil _ _ _ _, fun q hq => by simp [readyL] at hq⟩, fun j j' b n c n' c' _ e _ => ?_⟩
  rw [List.getElem?_replicate] at e
  split at e
  · cases e
  · cases e
variable {E : Env} (hE : OE E)
include hE
theorem assign1_ (hKp : SumsKept E) {hB hK : List O} {k pO pN pG n gens : Nat} {vr : Value} {frL : Fr} {rels : List (List Int)} (hn : 1 ≤ n ∧ n ≤ 6) (hgens : gens ≤ 600) (hrels : rels.length ≤ 100000)
    (hlet : ∀ r ∈ rels, LetOk gens r) (hsB : Sub hB hK) (hBl : hB.length ≤ pO) (hM : Mat hB vr rels)
    (hk : hK[k]? = some (.loop false 43 frL [39] (lcA 57 0) (lcB 57 0))) (g9 : get frL 9 = .pointer (some ⟨pO, 0, none⟩))
    (hO : hK[pO]? = some (.cells [.int .i64 0] 3 (some 0))) (hN : hK[pN]? = some (.cells [.int .i64 n] 3 (some 0))) (hG : hK[pG]? = some (.cells [.int .i64 gens, vr] 81 (some 0)))
    (ho : pO < pN ∧ pO < pG ∧ pO < k) (hcnt : (permL n).length ^ gens ≤ 10000000000) :
    DC E 188 [tok k, .pointer (some ⟨pN, 0, none⟩), .pointer (some ⟨pG, 0, none⟩)] ⟨hK, hK.length⟩ fun o st' => (∃ v, o = .ret v) ∧ pO ≤ st'.fl ∧ (∀ (b : Nat) (o : O), hK[b]? = some o → b ≠ pO → st'.h[b]? = some o) ∧ AtB st'.h pO (.cells [.int .i64 (cntV n (permL n) rels gens [])] 3 (some 0)) := by
  refine hE.fnC (body := rb188) rfl ?_
  unfold rb188
  have lO := (List.getElem?_eq_some_iff.1 hO).1
  have lk := (List.getElem?_eq_some_iff.1 hk).1
  have lN := (List.getElem?_eq_some_iff.1 hN).1
  have lG := (List.getElem?_eq_some_iff.1 hG).1
  obtain ⟨h1, hh1⟩ : ∃ H, H = hK ++ [O.cells [tok k] 219 (some 0)] := ⟨_, rfl⟩
  have l1 : h1.length = hK.length + 1 := by rw [hh1]; simp
  have hN1 : h1[pN]? = some (.cells [.int .i64 n] 3 (some 0)) := by rw [hh1]; exact app_of hN _
  have htk : (tok k).cells = #[tok k] := rfl
  have htk1 : one1 (tok k) = true := rfl
  simp [htk, ← hh1, rd_def, hN1]
  refine (permutations_ hE hn).imp ?_
  rintro o ⟨h2, f2⟩ ⟨v, rfl, s2, hf2, hP⟩
  simp only at s2 hf2 hP
  have hjo : joined ⟨h1, hK.length⟩ ⟨h2, f2⟩ = ⟨h2, hK.length⟩ := joined_fl hf2
  obtain ⟨aa, rfl, hrows⟩ := hP.look
  have s12 : Sub hK h2 := fun b o hb => s2 _ _ (by rw [hh1]; exact app_of hb _)
  have l2 : h1.length ≤ h2.length := by
    have h0 : h1[hK.length]? = some (O.cells [tok k] 219 (some 0)) := by rw [hh1, app_at0]; rfl
    have := (List.getElem?_eq_some_iff.1 (s2 _ _ h0)).1
    omega
  have hG2 : ∀ l, (h2 ++ l)[pG]? = some (.cells [.int .i64 gens, vr] 81 (some 0)) := fun l => app_of (s12 _ _ hG) l
  have hwg : IntKind.i64.wrap ((gens : Int) + 1) = (gens : Int) + 1 := by rw [w64_id] <;> omega
  have e1 : ((gens : Int) + 1) * 24 ≤ 140737488355328 := by omega
  have e2 : (gens : Int) + 1 < 4611686018427387904 := by omega
  have e3 : (0 : Int) ≤ (gens : Int) + 1 := by omega
  have e4 : ((gens : Int) + 1).toNat = gens + 1 := by omega
  have hrep : rep (gens + 1) [Value.slice none 0 0] = List.replicate (gens + 1) (.slice none 0 0) := by simp [rep]
  obtain ⟨va, vb, vo, vc, vs, hvr, hva, hvs⟩ := hM.at
  subst hvr
  simp [hjo, bit, wrN_at0, set_at0, rd_def, hG2, hwg, e1, e2, e3, e4, hrep, wrN_at, set_at, List.append_assoc]
  obtain ⟨hQ, hhQ⟩ : ∃ H, H = h2 ++ [O.cells [.slice aa (permL n).length (permL n).length] 48 (some 0), O.cells (List.replicate (gens + 1) (.slice none 0 0)) 48 (some 0), O.cells [.slice (some ⟨h2.length + 1, 0, none⟩) (gens + 1) (gens + 1)] 129 (some 0)] := ⟨_, rfl⟩
  rw [← hhQ]
  have lQ : hQ.length = h2.length + 3 := by rw [hhQ]; simp
  have q0 : hQ[h2.length]? = some (O.cells [.slice aa (permL n).length (permL n).length] 48 (some 0)) := by rw [hhQ, app_at0]; rfl
  have q1 : hQ[h2.length + 1]? = some (O.cells (List.replicate (gens + 1) (.slice none 0 0)) 48 (some 0)) := by rw [hhQ, app_at]; rfl
  have q2 : hQ[h2.length + 2]? = some (O.cells [.slice (some ⟨h2.length + 1, 0, none⟩) (gens + 1) (gens + 1)] 129 (some 0)) := by rw [hhQ, app_at]; rfl
  have s2Q : Sub h2 hQ := by rw [hhQ]; exact (Sub.refl _).app _
  have sBQ : Sub hB hQ := fun b o hb => s2Q _ _ (s12 _ _ (hsB _ _ hb))
  have hlen : rels.length < 2 ^ 62 := by omega
  obtain ⟨Rb, hRb⟩ : ∃ Rb, Rb = h2.length + 1 := ⟨_, rfl⟩
  obtain ⟨pA, hpA⟩ : ∃ pA, pA = h2.length := ⟨_, rfl⟩
  obtain ⟨pR, hpR⟩ : ∃ pR, pR = h2.length + 2 := ⟨_, rfl⟩
  have hmn : min hK.length h2.length = hK.length := by omega
  rw [hmn, ← hRb, ← hpR, ← hpA]
  rw [← hRb] at q1 q2
  rw [← hpR] at q2
  rw [← hpA] at q0
  refine DW_loop (fun kk fr st => ∃ (i : Nat) (h : List O) (rv : List Value), i + kk = rels.length ∧ st = ⟨h, hK.length⟩ ∧ RdI hB h hQ.length Rb gens (rels.take i) rv ∧ (∀ (b : Nat) (o : O), b ≠ Rb → hQ[b]? = some o → h[b]? = some o) ∧
    get fr 0 = tok k ∧ get fr 1 = .pointer (some ⟨pN, 0, none⟩) ∧ get fr 2 = .pointer (some ⟨pG, 0, none⟩) ∧ get fr 3 = .pointer (some ⟨hK.length, 0, none⟩) ∧ get fr 4 = .pointer (some ⟨pA, 0, none⟩) ∧ get fr 5 = .pointer (some ⟨pR, 0, none⟩) ∧ get fr 21 = .slice va rels.length vc ∧ get fr 22 = .int .i64 rels.length ∧ get fr 23 = .int .i64 i) ?_ (k := rels.length) ?_
  · rintro kk fr st ⟨i, h, rv, hik, rfl, hRd, hkeep, g0, g1, g2, g3, g4, g5, g21, g22, g23⟩
    have sBh : Sub hB h := fun b o hb => by
      have := (List.getElem?_eq_some_iff.1 hb).1
      exact hkeep _ _ (by omega) (sBQ _ _ hb)
    by_cases hi : i < rels.length
    · have hwi : IntKind.i64.wrap ((i : Int) + 1) = (i : Int) + 1 := by rw [w64_id] <;> omega
      obtain rfl := hva (by omega)
      obtain ⟨r1, r2⟩ := hvs i hi
      obtain ⟨wa, wb, wo, wc, hwv, hwa, hwr⟩ := r2.at
      have hwl : (nthR rels i).length < 2 ^ 62 := by obtain ⟨_, _, _, _, _, _, _, _, h5⟩ := r2; exact h5
      have r1' := Ai.Sub.rdO sBh r1
      have hLet := hlet _ (nthR_mem hi)
      obtain ⟨w, hw⟩ : ∃ w, w = nthR rels i := ⟨_, rfl⟩
      rw [← hw] at hwv hwa hwr hwl hLet r2
      simp [g0, g1, g2, g3, g4, g5, g21, g22, g23, hi, rd_def, r1', hwv]
      refine DW_loop (fun kk' fr st => ∃ (j : Nat), j + kk' = w.length ∧ st = ⟨h, hK.length⟩ ∧
        get fr 0 = tok k ∧ get fr 1 = .pointer (some ⟨pN, 0, none⟩) ∧ get fr 2 = .pointer (some ⟨pG, 0, none⟩) ∧ get fr 3 = .pointer (some ⟨hK.length, 0, none⟩) ∧ get fr 4 = .pointer (some ⟨pA, 0, none⟩) ∧ get fr 5 = .pointer (some ⟨pR, 0, none⟩) ∧ get fr 21 = .slice (some ⟨vb, vo, none⟩) rels.length vc ∧ get fr 22 = .int .i64 rels.length ∧ get fr 23 = .int .i64 i ∧
        get fr 7 = .slice wa w.length wc ∧ get fr 8 = .int .i64 (lastW (w.take j)) ∧ get fr 27 = .slice wa w.length wc ∧ get fr 28 = .int .i64 w.length ∧ get fr 29 = .int .i64 j) ?_ (k := w.length) ?_
      · clear g0 g1 g2 g3 g4 g5 g21 g22 g23
        rintro kk' fr st ⟨j, hjk, rfl, g0, g1, g2, g3, g4, g5, g21, g22, g23, g7, g8, g27, g28, g29⟩
        by_cases hj : j < w.length
        · have hwj : IntKind.i64.wrap ((j : Int) + 1) = (j : Int) + 1 := by rw [w64_id] <;> omega
          obtain rfl := hwa (by omega)
          have hlt := hLet j hj
          have hr' := Ai.Sub.rdO sBh (hwr j hj)
          have hwn : IntKind.i64.wrap (-nth w j) = -nth w j := by rw [w64_id] <;> omega
          have hmx : maxminV true [Value.int .i64 (lastW (w.take j)), .int .i64 (nth w j), .int .i64 (-nth w j)] = some (.int .i64 (lastW (w.take (j + 1)))) := by
            rw [lastW_take hj]
            simp only [maxminV, maxmin2, if_true]
            congr 2
            split <;> split <;> omega
          simp [g0, g1, g2, g3, g4, g5, g21, g22, g23, g7, g8, g27, g28, g29, hj, rd_def, hr', hwn, hmx, hwj]
          exact ⟨kk' - 1, by omega, j + 1, by omega, rfl, by omega⟩
        · have hjw : j = w.length := by omega
          subst hjw
          rw [List.take_length] at g8
          have hlw := lastW_lt hLet
          have q2h := hkeep _ _ (by omega) q2
          have r2v := r2
          rw [hwv] at r2v
          obtain ⟨v, a1, a2, b', n', H4, f4, a3, a4, a5, a6, a7, a8⟩ := RdI.add (fl := hK.length) hRd r2v (by rfl) hlw (by rw [List.length_take]; omega)
          have hRbh := hRd.at_
          have hle : (lastW w : Int) < (gens : Int) + 1 := by omega
          simp [g0, g1, g2, g3, g4, g5, g21, g22, g23, g7, g8, g27, g28, g29, rd_def, q2h, hlw, hle, hRbh, a1, a3]
          have hbv : ∀ x ∈ blk v, ¬ x = Rb ∧ ¬ x = pR := fun x hx => by
            rcases a2 with rfl | ⟨b, n1, rfl, hb1⟩
            · simp [blk] at hx
            · simp [blk] at hx
              omega
          refine ⟨⟨fun _ x hx => (hbv x hx).1, fun _ x hx => (hbv x hx).2, fun x hx => (hbv x hx).2⟩, ?_⟩
          have hRb4 := a6 Rb _ (by omega) hRbh
          obtain rfl : f4 = hK.length := by omega
          have hmR : min hK.length Rb = hK.length := by omega
          have hrvl := hRd.len
          have hlwr : lastW w + 1 ≤ rv.length := by omega
          have hlw' : lastW w ≤ gens := by omega
          simp [wrN_def, hRb4, hlw', hrvl, hmR, g0, g1, g2, g3, g4, g5, g21, g22, g23, hwi]
          have htake : rels.take (i + 1) = rels.take i ++ [w] := by rw [List.take_add_one, List.getElem?_eq_getElem hi, hw]; simp [nthR, hi]
          refine ⟨⟨fun h => absurd h (by decide), by decide, fun h => absurd h (by decide)⟩, kk - 1, by omega, i + 1, by omega, ⟨_, by rw [htake]; exact a8⟩, fun b o hb1 hb2 => set_ne (a6 b o ?_ (hkeep b o hb1 hb2)) hb1, by omega⟩
          exact (List.getElem?_eq_some_iff.1 hb2).1
      · exact ⟨0, by omega, rfl, by simp [lastW, g0, g1, g2, g3, g4, g5, g21, g22, g23]⟩
    · have hil : i = rels.length := by omega
      subst hil
      rw [List.take_length] at hRd
      have q0h := hkeep _ _ (by omega) q0
      have q2h := hkeep _ _ (by omega) q2
      have hGh := hkeep _ _ (by omega) (s2Q _ _ (s12 _ _ hG))
      have hNh := hkeep _ _ (by omega) (s2Q _ _ (s12 _ _ hN))
      have hOh := hkeep _ _ (by omega) (s2Q _ _ (s12 _ _ hO))
      have hkh := hkeep _ _ (by omega) (s2Q _ _ (s12 _ _ hk))
      have hYh := hkeep hK.length _ (by omega) (s2Q _ _ (s2 _ _ (show h1[hK.length]? = some (O.cells [tok k] 219 (some 0)) by rw [hh1, app_at0]; rfl)))
      have f1 : (gens : Int) * 24 ≤ 140737488355328 := by omega
      have f3 : (gens : Int) < 4611686018427387904 := by omega
      have hrep2 : rep gens [Value.slice none 0 0] = List.replicate gens (.slice none 0 0) := by simp [rep]
      have hGa : ∀ l, (h ++ l)[pG]? = _ := fun l => app_of hGh l
      have lh := hRd.lo_
      obtain ⟨vV, hvV⟩ : ∃ vV, vV = visV2 (h.length + 2) pG hK.length pA (h.length + 3) pR pN (h.length + 4) := ⟨_, rfl⟩
      have hvV' := hvV
      unfold visV2 at hvV
      have hb1 : one1 vV = true := by rw [hvV]; rfl
      have hb2 : vV.cells = #[vV] := by rw [hvV]; rfl
      simp [g0, g1, g2, g3, g4, g5, g21, g22, g23, rd_def, hGh, hGa, f1, f3, hrep2, wrN_at0, wrN_at, set_at, set_at0, List.append_assoc, ← hvV, hb1, hb2]
      refine ⟨⟨fun _ => by omega, fun _ => by omega⟩, ⟨fun _ => by omega, fun _ => by omega⟩, ?_⟩
      obtain ⟨hV, hhV⟩ : ∃ H, H = h ++ [O.cells (List.replicate gens (.slice none 0 0)) 34 (some 0), O.cells (List.replicate gens (.slice none 0 0)) 34 (some 0), O.cells [.slice (some ⟨h.length, 0, none⟩) 0 gens] 48 (some 0), O.cells [.slice (some ⟨h.length + 1, 0, none⟩) 0 gens] 48 (some 0), O.cells [vV] 25 (some 0)] := ⟨_, rfl⟩
      have lV : hV.length = h.length + 5 := by rw [hhV]; simp
      have hVa : ∀ (b : Nat) (o : O), h[b]? = some o → hV[b]? = some o := fun b o hb => by rw [hhV]; exact app_of hb _
      have v0 : hV[h.length]? = some (O.cells (List.replicate gens (.slice none 0 0)) 34 (some 0)) := by rw [hhV, app_at0]; rfl
      have v1 : hV[h.length + 1]? = some (O.cells (List.replicate gens (.slice none 0 0)) 34 (some 0)) := by rw [hhV, app_at]; rfl
      have v2 : hV[h.length + 2]? = some (O.cells [.slice (some ⟨h.length, 0, none⟩) 0 gens] 48 (some 0)) := by rw [hhV, app_at]; rfl
      have v3 : hV[h.length + 3]? = some (O.cells [.slice (some ⟨h.length + 1, 0, none⟩) 0 gens] 48 (some 0)) := by rw [hhV, app_at]; rfl
      have v4 : hV[h.length + 4]? = some (O.cells [vV] 25 (some 0)) := by rw [hhV, app_at]; rfl
      rw [← hhV]
      have hmn2 : min hK.length (h.length + 2) = hK.length := by omega
      rw [hmn2]
      have htgt : target vV [] = some (189, [.pointer (some ⟨h.length + 2, 0, none⟩), .pointer (some ⟨pG, 0, none⟩), .pointer (some ⟨hK.length, 0, none⟩), .pointer (some ⟨pA, 0, none⟩), .pointer (some ⟨h.length + 3, 0, none⟩), .pointer (some ⟨pR, 0, none⟩), .pointer (some ⟨pN, 0, none⟩), .pointer (some ⟨h.length + 4, 0, none⟩)]) := by rw [hvV]; rfl
      have hPl := permL_le hn.2
      have hle3 : ∀ r ∈ rels, LetOk (lastW r) r := fun r hr j hj => by
        have h1 := hlet r hr j hj
        have h2 := lastW_le (nth_mem hj)
        exact ⟨h1.1, by omega, by omega⟩
      have hfix : ∀ h', SubX (h.length + 2) (h.length + 3) h.length (h.length + 1) pO hV h' → hV.length ≤ h'.length → FixI E h' aa pG hK.length pA pR pN (h.length + 4) pO k n gens vV rels := fun h' hs hl => by
        have K : ∀ (b : Nat) (o : O), h[b]? = some o → b ≠ pO → h'[b]? = some o := fun b o hb hn => by
          have := (List.getElem?_eq_some_iff.1 hb).1
          exact hs b o (hVa _ _ hb) (by omega) (by omega) (by omega) (by omega) hn
        refine ⟨⟨_, K _ _ hGh (by omega)⟩, K _ _ hYh (by omega), K _ _ q0h (by omega), fun q hq => ?_, ⟨Rb, rv, K _ _ q2h (by omega), K _ _ hRd.at_ (by omega), fun j hj => ?_⟩, K _ _ hNh (by omega), hs _ _ v4 (by omega) (by omega) (by omega) (by omega) (by omega), fun v c hc1 hc2 => round57 hE (K _ _ hkh (by omega)) g9 hc1 hc2⟩
        · obtain ⟨b, b', z1, z2, z3, z4, z5⟩ := hrows q hq
          refine ⟨b, b', z1, ?_, by omega, ?_⟩
          · cases hb : h2[b]? with
            | none => rw [hb] at z3; simp [rdO] at z3
            | some o =>
              have := (List.getElem?_eq_some_iff.1 hb).1
              rw [K _ _ (hkeep _ _ (by omega) (s2Q _ _ hb)) (by omega), ← hb]
              exact z3
          · have := (List.getElem?_eq_some_iff.1 z5).1
            exact K _ _ (hkeep _ _ (by omega) (s2Q _ _ z5)) (by omega)
        · obtain ⟨v, z1, z2⟩ := hRd.each j hj
          refine ⟨v, z1, (z2.keep (h' := h') fun b n c _ hb o ho => K _ _ ho (by omega)).mat (fun w xs hx => ?_) ?_⟩
          · exact hx.sub fun b o hb => K _ _ (sBh _ _ hb) (by have := (List.getElem?_eq_some_iff.1 hb).1; omega)
          · have := readyL_le rels j
            omega
      have hD0 : DynI hV (h.length + 2) (h.length + 3) h.length (h.length + 1) pO n gens (([] : List (List Int)).length) 0 [] := ⟨v2, v3, ⟨_, v0, by simp, fun q hq => by simp at hq⟩, ⟨_, v1, by simp, fun q hq => by simp [invA] at hq⟩, hVa _ _ hOh⟩
      have hvis := visit2_ (hV := hV) hE hn hgens (fun q hq => permL_perm hq) hle3 (by omega) (hvV' ▸ hfix) (base := pO) ⟨by omega, by omega, by omega, by omega, by omega, by omega⟩ ⟨by omega, by omega, by omega, by omega, by omega, by omega⟩ (by omega) (by omega) (by omega) (by omega) (by omega) (by omega) (by omega) (by omega) (by omega) (by omega) (by omega)
        gens (im := []) (by simp) (fun q hq => by simp at hq) (SubX.refl _ _ _ _ _ _) (Nat.le_refl _) hD0 (by omega) (by simpa using (show ((permL n).length ^ gens : Nat) ≤ (10000000000 : Int) by omega))
      simp [htgt]
      refine (DC.kept hKp hvis).imp ?_
      rintro o ⟨h3, f3⟩ ⟨⟨rfl, w1, w2, w3, w4, w5⟩, w6⟩
      simp only at w1 w2 w3 w4 w5
      have hjo3 : joined ⟨hV, hK.length⟩ ⟨h3, f3⟩ = ⟨h3, min hK.length f3⟩ := by simp only [joined]; rw [if_pos w2]
      simp [hjo3, bit, endK_normal]
      unfold pairQ back
      have hw5 := w5.o
      simp only [Int.zero_add] at hw5
      split
      · rename_i hc
        simp at hc
        have := w6.same pO (by simp only; omega) (by simp only; omega)
        simp only at this
        rw [hw5, hVa _ _ hOh] at this
        simp at this
        refine ⟨⟨_, rfl⟩, by simp only; omega, fun b o hb _ => hb, ?_⟩
        rw [this]
        exact hO
      · exact ⟨⟨_, rfl⟩, by simp only; omega, fun b o hb hn => by
          have := (List.getElem?_eq_some_iff.1 hb).1
          exact w4 b o (hVa _ _ (hkeep _ _ (by omega) (s2Q _ _ (s12 _ _ hb)))) (by omega) (by omega) (by omega) (by omega) hn, hw5⟩
  · refine ⟨0, hQ, _, by omega, rfl, RdI.nil q1 (by omega) (by omega), fun b o _ hb => hb, ?_⟩
    simp
end Go.Proofs.Ytjlkndkedknocaa
namespace Go.Proofs.Ytjlkndkedknocaa
open Go Go.Ai
set_option linter.unusedSimpArgs false
set_option linter.unusedVariables false
attribute [local instance] Classical.propDecidable
def FewA (P g : Nat) : Prop := ∀ i, i < g → P ^ (i + 1) ≤ 2000000
noncomputable def genN (G : Dg) : Nat := arC G + G.L.toNat
noncomputable def cntD (G : Dg) (k : Nat) : Nat := cntV k (permL k) (relL G) (genN G) []
noncomputable def countA (n : Nat) (x : Nat → Nat → Int) (s : Nat → Int) (L k : Int) : Int × Int :=
  if kindD n x s L ≠ 0 then (0, kindD n x s L) else if ¬ (1 ≤ k ∧ k ≤ 6) then (0, 1) else if ¬ FewA (permL k.toNat).length (genN (dgOf n x s L)) then (0, 2) else (cntD (dgOf n x s L) k.toNat, 0)
variable {E : Env} (hE : OE E)
include hE
theorem assignments_ {h : List O} {gens n : Nat} {v : Value} (h1 : one1 v = true) :
    DR E 133 [.agg #[.int .i64 gens, v], .int .i64 n] ⟨h, h.length⟩ (.ret (.func (.func 188) #[] #[.pointer (some ⟨h.length + 1, 0, none⟩), .pointer (some ⟨h.length, 0, none⟩)])) ⟨h ++ [.cells [.int .i64 gens, v] 81 (some 0), .cells [.int .i64 n] 3 (some 0)], h.length⟩ := by
  refine hE.fn (body := rb133) rfl ?_
  unfold rb133
  have hs : (Out.ret (.func (.func 188) #[] #[.pointer (some ⟨h.length + 1, 0, none⟩), .pointer (some ⟨h.length, 0, none⟩)])).scalar = false := rfl
  simp [List.append_assoc, endK_ret, back, hs]
theorem countW_ (hKp : SumsKept E) {h0 : List O} {a : Option Addr} {n c : Nat} {x : Nat → Nat → Int} {s : Nat → Int} {L k : Int} (hx : CrossP h0 a n x s) :
    DR E 57 [dV a n c L, .int .i64 k] ⟨h0, h0.length⟩ (.ret (.tuple #[.int .i64 (countA n x s L k).1, .int .i64 (countA n x s L k).2])) ⟨h0, h0.length⟩ := by
  refine hE.fn (body := rb57) rfl ?_
  unfold rb57
  have hx1 : CrossP (h0 ++ [O.cells [.slice a n c, .int .i64 L] 24 (some 0)]) a n x s := hx.ext (Ext.snoc _ _)
  have h1 := check_ hE (c := c) (L := L) hx1
  simp [dV] at h1
  have hsc : ∀ y z : Int, (Out.ret (.tuple #[.int .i64 y, .int .i64 z])).scalar = true := fun _ _ => rfl
  by_cases hk : kindD n x s L = 0
  · by_cases hk6 : 1 ≤ k ∧ k ≤ 6
    · obtain ⟨m, rfl⟩ : ∃ m : Nat, k = m := ⟨k.toNat, by omega⟩
      have hm : 1 ≤ m ∧ m ≤ 6 := by omega
      have hS := (kind_zero hk).1
      have h2 := newLinkC_ hE (c := c) hx1 hk
      simp [dV] at h2
      have nl1 : ¬ ((m : Int) < 1) := by omega
      have ng6 : ¬ (6 < (m : Int)) := by omega
      have hcA : countA n x s L (m : Int) = if ¬ FewA (permL m).length (genN (dgOf n x s L)) then (0, 2) else ((cntD (dgOf n x s L) m : Int), 0) := by
        unfold countA
        rw [if_neg (by simp [hk]), if_neg (by simp; omega)]
        rfl
      rw [hcA]
      obtain ⟨G, hGe⟩ : ∃ G, G = dgOf n x s L := ⟨_, rfl⟩
      have hG : GoodG G := by rw [hGe]; exact good_of hS
      have hGn : G.n = n := by rw [hGe]; rfl
      have hGL : G.L = L := by rw [hGe]; rfl
      have hloops := hG.loops
      have hac := arC_le G
      have hsz := hG.size
      obtain ⟨g, hg⟩ : ∃ g, g = genN G := ⟨_, rfl⟩
      have hg' : (arC G : Int) + L = (g : Int) := by rw [hg, ← hGL]; unfold genN; omega
      have hgl : g ≤ 600 := by omega
      rw [← hGe, ← hg]
      obtain ⟨P, hP⟩ : ∃ P, P = (permL m).length := ⟨_, rfl⟩
      have hPl : P ≤ 46656 := by rw [hP]; exact permL_le hm.2
      rw [← hP]
      obtain ⟨zz, hzz⟩ : ∃ zz, zz = (if ¬ FewA P g then ((0 : Int), (2 : Int)) else ((cntD G m : Int), 0)) := ⟨_, rfl⟩
      rw [← hzz]
      simp [dV, rdN_at0, DC_of h1, hk, nl1, ng6, joined_fl]
      refine h2.imp ?_
      rintro o ⟨h3, f3⟩ ⟨pl, rfl, hp, hf, hs, hl⟩
      simp only at hf hs hl
      have hs0 : Sub h0 h3 := ((Sub.refl h0).app _).trans hs
      simp [joined_fl, hf]
      refine (presentation_ hE hl hS).imp ?_
      rintro o ⟨h4, f4⟩ ⟨v, rfl, hs4, hf4, hM⟩
      simp only at hf4 hs4 hM
      rw [← hGe] at hM ⊢
      rw [hg']
      have hM0 := hM.mat
      have hone : one1 v = true := by obtain ⟨va, vb, vo, vc, vvs, hv, hvr⟩ := hM0; rw [hv]; rfl
      have hl3 := hs.len
      simp at hl3
      have hl4 := hs4.len
      have hmin4 : min h0.length h4.length = h0.length := by omega
      obtain ⟨H, hH⟩ : ∃ H, H = h4 ++ [O.cells [.int .i64 g, v] 81 (some 0)] := ⟨_, rfl⟩
      have hlH : H.length = h4.length + 1 := by rw [hH]; simp
      have hsH : Sub h4 H := by rw [hH]; exact (Sub.refl _).app _
      have hs0H : Sub h0 H := (hs0.trans hs4).trans hsH
      have q6 : H[h4.length]? = some (.cells [.int .i64 g, v] 81 (some 0)) := by rw [hH, app_at0]; rfl
      simp [joined_fl, hf4, wrN_at0, hone, set_at0, hmin4, ← hH, rd_def, q6]
      refine DW_loop (fun kk fr st => ∃ (i : Nat) (h : List O), i + kk = g ∧ st = ⟨h, h0.length⟩ ∧ Sub H h ∧ (∀ i', i' < i → P ^ (i' + 1) ≤ 2000000) ∧ get fr 1 = .int .i64 m ∧ get fr 7 = .pointer (some ⟨h4.length, 0, none⟩) ∧ get fr 8 = .int .i64 ((P ^ i : Nat) : Int) ∧ get fr 25 = .int .i64 g ∧ get fr 26 = .int .i64 i) ?_ (k := g) ?_
      · rintro kk fr st ⟨i, h, hik, rfl, hsub, hfew, g1, g7, g8, g25, g26⟩
        have hhl := hsub.len
        have q6h := hsub _ _ q6
        by_cases hi : i < g
        · have hw : IntKind.i64.wrap ((i : Int) + 1) = (i : Int) + 1 := by rw [w64_id] <;> omega
          have hpi : P ^ i ≤ 2000000 := by
            cases i with
            | zero => simp
            | succ i => exact hfew i (by omega)
          have hpm : P ^ i * P ≤ 2000000 * 46656 := Nat.mul_le_mul hpi hPl
          have hpw : IntKind.i64.wrap (((P ^ i : Nat) : Int) * (P : Int)) = ((P ^ (i + 1) : Nat) : Int) := by
            rw [Nat.pow_succ, ← Int.natCast_mul]
            rw [w64_id] <;> omega
          obtain ⟨p0, hp0⟩ : ∃ p0, p0 = P ^ i := ⟨_, rfl⟩
          obtain ⟨p1, hp1⟩ : ∃ p1, p1 = P ^ (i + 1) := ⟨_, rfl⟩
          rw [← hp0] at g8 hpw
          rw [← hp1] at hpw
          simp [g1, g7, g8, g25, g26, hi]
          refine (permutations_ hE hm).imp ?_
          rintro o ⟨h5, f5⟩ ⟨w, rfl, s5, hf5, hPP⟩
          simp only at s5 hf5 hPP
          obtain ⟨wa, rfl, _⟩ := hPP.look
          rw [← hP]
          by_cases hbig : p1 ≤ 2000000
          · have hb1 : ¬ (2000000 < (p1 : Int)) := by omega
            simp [joined_fl, hf5, g1, g7, g8, g25, g26, hpw, hb1, hw]
            refine ⟨kk - 1, by omega, i + 1, by omega, hsub.trans s5, fun i' hi' => ?_, by rw [hp1]; push_cast; rfl, by omega⟩
            by_cases e : i' < i
            · exact hfew i' e
            · obtain rfl : i' = i := by omega
              omega
          · have hb1 : 2000000 < (p1 : Int) := by omega
            have hnF : ¬ FewA P g := fun hF => hbig (by rw [hp1]; exact hF i hi)
            rw [if_pos hnF] at hzz
            subst hzz
            simp [joined_fl, hf5, g1, g7, g8, g25, g26, hpw, hb1, hw, endK_ret, back, hsc]
        · obtain rfl : i = g := by omega
          have hF : FewA P i := hfew
          rw [if_neg (fun h => h hF)] at hzz
          obtain ⟨pO, hpO⟩ : ∃ pO, pO = h.length := ⟨_, rfl⟩
          obtain ⟨h6, hh6⟩ : ∃ h6, h6 = h ++ [O.cells [.int .i64 0] 3 (some 0)] := ⟨_, rfl⟩
          have l6 : h6.length = h.length + 1 := by rw [hh6]; simp
          have q66 : h6[h4.length]? = some (.cells [.int .i64 i, v] 81 (some 0)) := by rw [hh6]; exact app_of q6h _
          have has := assignments_ hE (h := h6) (gens := i) (n := m) hone
          obtain ⟨h7, hh7⟩ : ∃ h7, h7 = h6 ++ [O.cells [.int .i64 i, v] 81 (some 0), O.cells [.int .i64 m] 3 (some 0)] := ⟨_, rfl⟩
          rw [← hh7] at has
          have l7 : h7.length = h.length + 3 := by rw [hh7]; simp [l6]
          have hmnh : min h0.length h.length = h0.length := by omega
          simp [g1, g8, g25, g26, wrN_at0, set_at0, hmnh]
          rw [← hh6]
          simp [g1, g7, g8, g25, g26, rd_def, rdN_def, q66, DC_of has, joined_fl]
          rw [← hpO]
          obtain ⟨pG, hpG⟩ : ∃ pG, pG = h6.length := ⟨_, rfl⟩
          obtain ⟨pN, hpN⟩ : ∃ pN, pN = h6.length + 1 := ⟨_, rfl⟩
          rw [← hpN, ← hpG]
          have z0 : h6[pO]? = some (O.cells [.int .i64 0] 3 (some 0)) := by rw [hh6, hpO, app_at0]; rfl
          have z1 : h7[pG]? = some (O.cells [.int .i64 i, v] 81 (some 0)) := by rw [hh7, hpG, app_at0]; rfl
          have z2 : h7[pN]? = some (O.cells [.int .i64 m] 3 (some 0)) := by rw [hh7, hpN, app_at]; rfl
          refine DW_rangeF (f := 188) (vs := [tok h7.length, .pointer (some ⟨pN, 0, none⟩), .pointer (some ⟨pG, 0, none⟩)]) (by simp) (by decide) ?_
          obtain ⟨frL, hfrL⟩ : ∃ frL, frL = put (put (put (put (put fr 27 (Value.bool false)) 9 (Value.pointer (some ⟨pO, 0, none⟩))) 36 (Value.agg #[.int .i64 i, v])) 37 (Value.int .i64 m)) 38 (Value.func (Fn.func 188) #[] #[Value.pointer (some ⟨pN, 0, none⟩), Value.pointer (some ⟨pG, 0, none⟩)]) := ⟨_, rfl⟩
          simp only []
          rw [← hfrL]
          have g9 : get frL 9 = .pointer (some ⟨pO, 0, none⟩) := by rw [hfrL]; simp
          obtain ⟨hK, hhK⟩ : ∃ hK, hK = h7 ++ [O.loop false 43 frL [39] (lcA 57 0) (lcB 57 0)] := ⟨_, rfl⟩
          have lK : hK.length = h7.length + 1 := by rw [hhK]; simp
          rw [← hhK, ← lK]
          have s67 : Sub h6 hK := by rw [hhK, hh7]; exact ((Sub.refl _).app _).app _
          have s7 : Sub h7 hK := by rw [hhK]; exact (Sub.refl _).app _
          have shK : Sub h hK := fun b o hb => s67 _ _ (by rw [hh6]; exact app_of hb _)
          have hkK : hK[h7.length]? = some (O.loop false 43 frL [39] (lcA 57 0) (lcB 57 0)) := by rw [hhK, app_at0]; rfl
          have hRl := relL_length G
          have hlet : ∀ r ∈ relL G, LetOk i r := fun r hr => by
            obtain ⟨q, hq, rfl⟩ := List.mem_map.1 hr
            exact relOf_let hG (List.mem_range.1 hq) (by rw [hg]; unfold genN; omega)
          have hcnt : (permL m).length ^ i ≤ 10000000000 := by
            rw [← hP]
            cases i with
            | zero => simp
            | succ i => have := hF i (by omega); omega
          refine (assign1_ hE hKp (hB := h4) hm hgl (by omega) hlet (hsH.trans (hsub.trans shK)) (by omega) hM0 hkK g9 (s67 _ _ z0) (s7 _ _ z2) (s7 _ _ z1) ⟨by omega, by omega, by omega⟩ hcnt).imp ?_
          rintro o ⟨h8, f8⟩ ⟨⟨w, rfl⟩, y1, y2, y3⟩
          simp only at y1 y2 y3
          refine ⟨⟨_, rfl⟩, ?_⟩
          have hk8 := y2 _ _ hkK (by omega)
          obtain ⟨f9, hj9, hf9⟩ : ∃ f9, joined ⟨hK, h0.length⟩ ⟨h8, f8⟩ = ⟨h8, f9⟩ ∧ h0.length ≤ f9 := by
            simp only [joined]
            split
            · exact ⟨_, rfl, by omega⟩
            · exact ⟨_, rfl, by omega⟩
          rw [hj9]
          refine ⟨_, over_eq hk8, ?_⟩
          have y4 : (h8.set h7.length .dead)[pO]? = some (.cells [.int .i64 (cntV m (permL m) (relL G) i [])] 3 (some 0)) := set_ne y3 (by omega)
          have hzc : cntD G m = cntV m (permL m) (relL G) i [] := by unfold cntD; rw [← hg]
          have hmf : h0.length ≤ min f9 h7.length := by omega
          rw [hzz, hzc]
          simp [g9, rd_def, y4, endK_ret, back, hsc]
          rw [if_pos hmf]
          exact ⟨rfl, rfl⟩
      · exact ⟨0, H, by omega, rfl, Sub.refl _, fun i' hi' => by omega, by simp⟩
    · unfold countA
      rw [if_neg (by simp [hk]), if_pos hk6]
      by_cases hlt : k < 1
      · simp [dV, rdN_at0, DC_of h1, hk, hlt, endK_ret, joined_fl, back, hsc]
      · have hgt : 6 < k := by omega
        simp [dV, rdN_at0, DC_of h1, hk, hlt, hgt, endK_ret, joined_fl, back, hsc]
  · unfold countA
    rw [if_pos hk]
    simp [dV, rdN_at0, DC_of h1, hk, endK_ret, joined_fl, back, hsc]
end Go.Proofs.Ytjlkndkedknocaa
namespace Go.Proofs.Ytjlkndkedknocaa
open Go Go.Ai
set_option linter.unusedSimpArgs false
set_option linter.unusedVariables false
noncomputable def GT : Dg := dgOf 3 xT sT 0
theorem GT_good : GoodG GT := good_of (kind_zero kind_T).1
theorem GT_X (i j : Nat) : GT.X i j = (xT i j).toNat := rfl
def outT : List (Nat × Nat) := [(1, 2), (0, 1), (2, 2), (1, 1), (0, 2), (2, 1)]
def inT : List (Nat × Nat) := [(0, 3), (2, 0), (1, 3), (0, 0), (2, 3), (1, 0)]
theorem in_T : ∀ c, c < 3 → ∀ q, q < 4 → outB 1 q = false → inT.getD (xT c q).toNat (0, 0) = (c, q) := by decide
theorem GT_in {a : Nat} (ha : a < 6) : finT GT a = inT.getD a (0, 0) := by
  obtain ⟨t0, t1, t2, t3, x1, x2, _⟩ := GT_good.T a ha
  obtain ⟨d1, d2⟩ := GT_good.dir a ha
  have := in_T (GT.T a 2) t2 (GT.T a 3) t3 d2
  rw [← GT_X, x2] at this
  exact this.symm
theorem GT_nx {a : Nat} (ha : a < 6) : nx GT a = (a + 1) % 6 := by
  have h := GT_in ha
  unfold finT at h
  have h1 := congrArg Prod.fst h
  have h2 := congrArg Prod.snd h
  simp only at h1 h2
  unfold nx
  rw [h1, h2, GT_X]
  match a, ha with
  | 0, _ => rfl
  | 1, _ => rfl
  | 2, _ => rfl
  | 3, _ => rfl
  | 4, _ => rfl
  | 5, _ => rfl
theorem GT_itr {a : Nat} (ha : a < 6) : ∀ t, itr (nx GT) a t = (a + t) % 6 := by
  intro t
  induction t with
  | zero => simp only [itr]; omega
  | succ t ih =>
    simp only [itr]
    rw [ih, GT_nx (by omega)]
    omega
theorem GT_orb : OrbI 6 (nx GT) 6 1 [0, 0, 0, 0, 0, 0] := by
  have h0 : ∀ j, j < 6 → nth [0, 0, 0, 0, 0, 0] j = 0 := by decide
  refine ⟨rfl, fun j hj => .inr ⟨by rw [h0 j hj]; exact Int.le_refl _, by rw [h0 j hj]; decide⟩, fun j hj => by rw [h0 j hj]; exact Int.le_refl _, fun a b ha hb _ => ⟨fun _ => ⟨b + 6 - a, ?_⟩, fun _ => by rw [h0 a ha, h0 b hb]⟩, fun j hj => ⟨0, by omega, by rw [h0 0 (by omega)]; omega, fun b hb => by omega⟩⟩
  rw [GT_itr ha]
  omega
theorem GT_cp : cpL GT = [0, 0, 0, 0, 0, 0] ∧ cpK GT = 1 := by
  obtain ⟨h1, h2⟩ := cp_eq (G := GT) GT_orb
  exact ⟨h1.symm, h2.symm⟩
theorem GT_per : perA GT 0 = 6 := by
  obtain ⟨⟨h1, h2, h3⟩, h4⟩ := perA_spec GT_good (show 0 < 2 * GT.n by decide)
  rw [GT_itr (by omega)] at h2
  have h5 : 2 * GT.n = 6 := rfl
  omega
theorem GT_arR : ∀ a, a < 6 → arR GT a = a / 2 * 2 := by
  intro a ha
  match a, ha with
  | 0, _ => rfl
  | 1, _ => rfl
  | 2, _ => rfl
  | 3, _ => rfl
  | 4, _ => rfl
  | 5, _ => rfl
theorem GT_cnt : ∀ i, i ≤ 6 → cntR (arR GT) i = (i + 1) / 2 := by
  intro i
  induction i with
  | zero => intro _; rfl
  | succ i ih =>
    intro hi
    rw [cntR_succ, ih (by omega), GT_arR i (by omega)]
    split <;> omega
theorem GT_arN {a : Nat} (ha : a < 6) : arN GT a = a / 2 := by
  unfold arN
  rw [GT_arR a ha, GT_cnt _ (by omega)]
  omega
theorem GT_arC : arC GT = 3 := GT_cnt 6 (by omega)
theorem GT_gen {c q : Nat} (hc : c < 3) (hq : q < 4) : gen GT (GT.X c q) = ((xT c q).toNat / 2 : Nat) + 1 := by
  unfold gen
  rw [GT_arN (GT_good.X c q hc hq)]
  rfl
def relsT : List (List Int) := [[-1, 2, 1, -3], [-2, 3, 2, -1], [-3, 1, 3, -2]]
theorem GT_rel : relL GT = relsT := by
  have h : ∀ i, i < 3 → relOf GT i = nthR relsT i := fun i hi => by
    unfold relOf
    rw [GT_gen hi (by omega), GT_gen hi (by omega), GT_gen hi (by omega)]
    match i, hi with
    | 0, _ => rfl
    | 1, _ => rfl
    | 2, _ => rfl
  show [relOf GT 0, relOf GT 1, relOf GT 2] = relsT
  rw [h 0 (by omega), h 1 (by omega), h 2 (by omega)]
  rfl
theorem GT_word {c q : Nat} (hc : c < 3) (hq : q < 4) : wordP GT (c, q) = if q = 0 then [(((xT c 1).toNat / 2 : Nat) : Int) + 1] else [] := by
  unfold wordP
  split
  · rw [GT_gen hc (by omega)]
    show [_ * (1 : Int)] = _
    rw [Int.mul_one]
  · rfl
theorem GT_own {c q : Nat} (hc : c < 3) (hq : q < 4) : ownP GT 0 (c, q) = if q = 0 then 1 else 0 := by
  unfold ownP
  rw [GT_cp.1]
  have h0 : nth [0, 0, 0, 0, 0, 0] (GT.X c 1) = 0 := by
    have h := GT_good.X c 1 hc (by omega)
    have hj : ∀ j, j < 6 → nth [0, 0, 0, 0, 0, 0] j = 0 := by decide
    exact hj _ h
  simp only [h0, and_true]
  rfl
theorem GT_lon : lonD GT 0 = [3, 1, 2, -1, -1, -1] := by
  have hf : fstA GT 0 = 0 := by
    unfold fstA
    exact firstI_found (i := 0) (by decide) (by rw [GT_cp.1]; rfl) (fun j hj => by omega)
  have hi : ∀ t, t < 6 → finT GT (itr (nx GT) 0 t) = inT.getD t (0, 0) := fun t ht => by
    rw [GT_itr (by omega), Nat.zero_add, Nat.mod_eq_of_lt ht, GT_in ht]
  have hw : wordT GT 0 6 = [3, 1, 2] := by
    simp only [wordT]
    rw [hi 0 (by omega), hi 1 (by omega), hi 2 (by omega), hi 3 (by omega), hi 4 (by omega), hi 5 (by omega)]
    show ((((([] ++ wordP GT (0, 3)) ++ wordP GT (2, 0)) ++ wordP GT (1, 3)) ++ wordP GT (0, 0)) ++ wordP GT (2, 3)) ++ wordP GT (1, 0) = _
    rw [GT_word (by omega) (by omega), GT_word (by omega) (by omega), GT_word (by omega) (by omega), GT_word (by omega) (by omega), GT_word (by omega) (by omega), GT_word (by omega) (by omega)]
    rfl
  have ho : lonS GT 0 = 3 := by
    unfold lonS
    rw [hf]
    show ownT GT 0 0 (perA GT 0) = 3
    rw [GT_per]
    simp only [ownT]
    rw [hi 0 (by omega), hi 1 (by omega), hi 2 (by omega), hi 3 (by omega), hi 4 (by omega), hi 5 (by omega)]
    show (((((0 + ownP GT 0 (0, 3)) + ownP GT 0 (2, 0)) + ownP GT 0 (1, 3)) + ownP GT 0 (0, 0)) + ownP GT 0 (2, 3)) + ownP GT 0 (1, 0) = 3
    rw [GT_own (by omega) (by omega), GT_own (by omega) (by omega), GT_own (by omega) (by omega), GT_own (by omega) (by omega), GT_own (by omega) (by omega), GT_own (by omega) (by omega)]
    rfl
  have hm : merD GT 0 = 1 := by
    unfold merD
    rw [hf]
    show (if (0 : Int) ≤ 0 then ((arN GT 0 : Nat) : Int) + 1 else _) = 1
    rw [GT_arN (by omega)]
    rfl
  unfold lonD
  rw [hf, ho, hm]
  show (if (0 : Int) ≤ 0 then wordT GT 0 (perA GT 0) ++ List.replicate 3 (-1) ++ List.replicate 0 1 else []) = _
  rw [GT_per, hw]
  rfl
end Go.Proofs.Ytjlkndkedknocaa
namespace Go.Proofs.Ytjlkndkedknocaa
open Go Go.Ai
set_option linter.unusedSimpArgs false
set_option linter.unusedVariables false
def trivB (A B : List (List Int)) (w : List Int) (n : Nat) : Bool := (List.range n).all fun i => actW A B w i == (i : Int)
theorem trivB_eq {A B : List (List Int)} {w : List Int} {n : Nat} : trivB A B w n = true ↔ TrivL A B w n := by
  unfold trivB TrivL
  rw [List.all_eq_true]
  exact ⟨fun h i hi => by simpa using h i (List.mem_range.2 hi), fun h i hi => by simpa using h i (List.mem_range.1 hi)⟩
def goodB (n : Nat) (rels A : List (List Int)) : Bool := (List.range (readyL rels A.length).length).all fun i => trivB A (A.map invL) (nthR (readyL rels A.length) i) n
theorem goodB_eq {n : Nat} {rels A : List (List Int)} : goodB n rels A = true ↔ GoodA n rels A := by
  unfold goodB GoodA
  rw [List.all_eq_true]
  exact ⟨fun h i hi => trivB_eq.1 (h i (List.mem_range.2 hi)), fun h i hi => trivB_eq.2 (h i (List.mem_range.1 hi))⟩
def cntB (n : Nat) (P rels : List (List Int)) : Nat → List (List Int) → Nat
  | 0, _ => 1
  | m + 1, im => sumNat (fun q => bif goodB n rels (im ++ [nthR P q]) then cntB n P rels m (im ++ [nthR P q]) else 0) P.length
theorem cntB_eq (n : Nat) (P rels : List (List Int)) : ∀ m im, cntV n P rels m im = cntB n P rels m im := by
  intro m
  induction m with
  | zero => intro im; rfl
  | succ m ih =>
    intro im
    simp only [cntV, cntB]
    congr 1
    funext q
    rw [ih]
    by_cases h : GoodA n rels (im ++ [nthR P q])
    · rw [if_pos h, goodB_eq.2 h]; rfl
    · rw [if_neg h]
      have : goodB n rels (im ++ [nthR P q]) = false := by
        cases hb : goodB n rels (im ++ [nthR P q]) with
        | true => exact absurd (goodB_eq.1 hb) h
        | false => rfl
      rw [this]; rfl
set_option maxRecDepth 100000 in
theorem cnt_T : cntB 3 (permL 3) relsT 3 [] = 12 := by kernel_rfl
theorem count_T : countA 3 xT sT 0 3 = (12, 0) := by
  have hP : (permL 3).length = 6 := by decide
  have hg : genN GT = 3 := by unfold genN; rw [GT_arC]; rfl
  have hF : FewA (permL 3).length (genN (dgOf 3 xT sT 0)) := by
    show FewA (permL 3).length (genN GT)
    rw [hP, hg]
    intro i hi
    match i, hi with
    | 0, _ => decide
    | 1, _ => decide
    | 2, _ => decide
  unfold countA
  rw [if_neg (by simp [kind_T]), if_neg (by decide), if_neg (fun h => h hF)]
  show ((cntV 3 (permL 3) (relL GT) (genN GT) [] : Int), (0 : Int)) = (12, 0)
  rw [hg, GT_rel, cntB_eq, cnt_T]
  rfl
end Go.Proofs.Ytjlkndkedknocaa
namespace Go.Proofs.Ytjlkndkedknocaa
open Go Go.Ai
set_option linter.unusedSimpArgs false
set_option linter.unusedVariables false
attribute [local instance] Classical.propDecidable
structure WE (E : Env) : Prop where
  oe : OE E
  kept : SumsKept E
  walk : ∀ (h : List O) (pl n : Nat) (x : Nat → Nat → Int) (s : Nat → Int) (L i : Int), LnkP h pl n x s L → Snd n x s L → DR E 148 [.pointer (some ⟨pl, 0, none⟩), .int .i64 i] ⟨h, h.length⟩ (.ret (walkV h)) ⟨walkM h pl i (dgOf n x s L), h.length⟩
noncomputable def E1 : Env := withK E0 4 148
theorem walk_callable : Callable Try.prog 148 := callableB_ok (by kernel_rfl)
theorem E1_ok (B : Nat) : EnvOk Fence.wide Try.prog B E1 := withK_ok follows E0_ok E0_kept walk_callable B
theorem E1_WE : WE E1 := ⟨E0_OE.sum148, withK_kept E0_kept, fun h pl n x s L i hl hS => by
  refine withK_DR (walk_ E0_OE (E0_S _) hl hS i) ⟨Nat.le_refl _, ?_, fun id h1 _ => ?_⟩
  · simp only [walkM]; simp
  · simp only [walkM]
    rw [List.append_assoc]
    exact List.getElem?_append_left h1⟩
theorem ints_at {h : List O} {v : Value} {xs : List Int} (hx : Ints h v xs) : ∃ a b o c, v = .slice a xs.length c ∧ (0 < xs.length → a = some ⟨b, o, none⟩) ∧ (∀ i, i < xs.length → rdO h[b]? (o + i) = some (.int .i64 (nth xs i))) ∧ xs.length < 2 ^ 62 := by
  obtain ⟨a, b, o, c, h1, h2, h3, h4, h5⟩ := hx
  exact ⟨a, b, o, c, h1, h2, fun i hi => by rw [← rd_def]; exact h3 i hi, h5⟩
variable {E : Env} (hE : OE E)
include hE
theorem sameI_ {h : List O} {va vb : Value} {xs ys : List Int} (hx : Ints h va xs) (hy : Ints h vb ys) :
    DR E 76 [va, vb] ⟨h, h.length⟩ (.ret (.bool (decide (xs = ys)))) ⟨h, h.length⟩ := by
  refine hE.fn (body := rb76) rfl ?_
  unfold rb76
  obtain ⟨xa, xb, xo, xc, rfl, ha, hxr, hxl⟩ := ints_at hx
  obtain ⟨ya, yb, yo, yc, rfl, hb, hyr, hyl⟩ := ints_at hy
  have hsc : ∀ b : Bool, (Out.ret (.bool b)).scalar = true := fun _ => rfl
  by_cases hl : xs.length = ys.length
  · have hl' : (xs.length : Int) = ys.length := by omega
    simp [hl']
    refine DW_loop (fun kk fr st => ∃ (i : Nat), i + kk = ys.length ∧ st = ⟨h, h.length⟩ ∧ (∀ j, j < i → nth xs j = nth ys j) ∧ get fr 0 = .slice xa xs.length xc ∧ get fr 1 = .slice ya ys.length yc ∧ get fr 12 = .int .i64 ys.length ∧ get fr 13 = .int .i64 i) ?_ (k := ys.length) ?_
    · rintro kk fr st ⟨i, hik, rfl, hd, g0, g1, g12, g13⟩
      by_cases hi : i < ys.length
      · have hw : IntKind.i64.wrap ((i : Int) + 1) = (i : Int) + 1 := by rw [w64_id] <;> omega
        have hi' : i < xs.length := by omega
        obtain rfl := ha (by omega)
        obtain rfl := hb (by omega)
        by_cases he : nth xs i = nth ys i
        · simp [g0, g1, g12, g13, hi, hi', hl, rd_def, hxr i hi', hyr i hi, he, hw]
          refine ⟨kk - 1, by omega, i + 1, by omega, fun j hj => ?_, by omega⟩
          by_cases e : j = i
          · rw [e]; exact he
          · exact hd j (by omega)
        · have hne : ¬ xs = ys := fun e => he (by rw [e])
          simp [g0, g1, g12, g13, hi, hi', hl, rd_def, hxr i hi', hyr i hi, he, hne, endK_ret, back, hsc]
      · obtain rfl : i = ys.length := by omega
        have heq : xs = ys := by
          apply List.ext_getElem hl
          intro j h1 h2
          rw [← nth_eq h1, ← nth_eq h2]
          exact hd j h2
        simp [g0, g1, g12, g13, heq, endK_ret, back, hsc]
    · exact ⟨0, by omega, rfl, fun j hj => by omega, by simp [hl]⟩
  · have hl' : ¬ (xs.length : Int) = ys.length := by omega
    have hne : ¬ xs = ys := fun e => hl (by rw [e])
    simp [hl, hl', hne, endK_ret, back, hsc]
end Go.Proofs.Ytjlkndkedknocaa
namespace Go.Proofs.Ytjlkndkedknocaa
open Go Go.Ai
set_option linter.unusedSimpArgs false
set_option linter.unusedVariables false
attribute [local instance] Classical.propDecidable
theorem saneW_ {E : Env} (hW : WE E) {h0 : List O} : DR E 56 [] ⟨h0, h0.length⟩ (.ret (.bool true)) ⟨h0, h0.length⟩ := by
  have hE := hW.oe
  refine hE.fn (body := rb56) rfl ?_
  unfold rb56
  have hp := parse_ hE kind_T (h0 := h0)
  unfold textB at hp
  simp
  refine hp.imp ?_
  rintro o ⟨h1, f1⟩ ⟨a, c, rfl, s1, hf1, hx⟩
  simp only at s1 hf1 hx
  have hx2 : CrossP (h1 ++ [O.cells [.slice a 3 c, .int .i64 0] 24 (some 0)]) a 3 xT sT := hx.ext (Ext.snoc _ _)
  have hc := countW_ hE hW.kept (c := c) (L := 0) (k := 3) hx2
  rw [count_T] at hc
  simp [dV] at hc
  have hl := longitude_ hE hW.walk (c := c) (L := 0) hx2 0
  simp [dV, kind_T] at hl
  have hone : ∀ n, one1 (.slice a n c) = true := fun _ => rfl
  simp [joined_fl, hf1, dV, wrN_at0, set_at0, rdN_at0, DC_of hc]
  refine hl.imp ?_
  rintro o ⟨h2, f2⟩ hq
  have hcp : cpK (dgOf 3 xT sT 0) = 1 := GT_cp.2
  rw [hcp] at hq
  simp at hq
  obtain ⟨v, rfl, s2, hf2, hI⟩ := hq
  simp only at s2 hf2 hI
  have hlon : lonD (dgOf 3 xT sT 0) 0 = [3, 1, 2, -1, -1, -1] := GT_lon
  rw [hlon] at hI
  simp at hf2
  have s02 : h1.length + 1 ≤ h2.length := by
    have h0 : (h1 ++ [O.cells [.slice a 3 c, .int .i64 0] 24 (some 0)])[h1.length]? = some (O.cells [.slice a 3 c, .int .i64 0] 24 (some 0)) := by rw [app_at0]; rfl
    have := (List.getElem?_eq_some_iff.1 (s2 _ _ h0)).1
    omega
  have hl1 := s1.len
  have hmn : min h0.length h1.length = h0.length := by omega
  have hI2 := hI.ext (Ext.snoc h2 [O.cells (intsC [3, 1, 2, -1, -1, -1]) 3 (some 0)])
  have hJ : Ints (h2 ++ [O.cells (intsC [3, 1, 2, -1, -1, -1]) 3 (some 0)]) (.slice (some ⟨h2.length, 0, none⟩) 6 6) [3, 1, 2, -1, -1, -1] := by
    refine ⟨_, h2.length, 0, 6, rfl, fun _ => rfl, fun i hi => ?_, fun i => ?_, by decide⟩
    · rw [rd_def, app_at0]
      match i, hi with
      | 0, _ => rfl
      | 1, _ => rfl
      | 2, _ => rfl
      | 3, _ => rfl
      | 4, _ => rfl
      | 5, _ => rfl
    · match i with
      | 0 => decide
      | 1 => decide
      | 2 => decide
      | 3 => decide
      | 4 => decide
      | 5 => decide
      | i + 6 => rw [nth_ge (by simp)]; decide
  have hs := sameI_ hE hI2 hJ
  rw [decide_eq_true rfl] at hs
  simp [intsC] at hs
  simp [joined_fl, hf2, hmn, DC_of hs, endK_ret, back]
  rw [if_pos (show (Out.ret (Value.bool true)).scalar = true from rfl)]
  exact ⟨rfl, rfl⟩
end Go.Proofs.Ytjlkndkedknocaa
namespace Go.Ai
set_option linter.unusedSimpArgs false
set_option linter.unusedVariables false
theorem ints_rdN {h : List O} {b o n c : Nat} {xs : List Int} (hr : ∀ i, i < xs.length → rdO h[b]? (o + i) = some (.int .i64 (nth xs i))) (hn : 0 < xs.length) : rdN h b o xs.length = some (xs.map (.int .i64)) := by
  have h0 := hr 0 hn
  cases hb : h[b]? with
  | none => rw [hb] at h0; simp [rdO] at h0
  | some ob =>
    cases ob with
    | cells cs el ow =>
      have hr' : ∀ i, i < xs.length → cs[o + i]? = some (.int .i64 (nth xs i)) := fun i hi => by
        have := hr i hi
        rw [hb] at this
        exact this
      have hl : o + xs.length ≤ cs.length := by
        have := (List.getElem?_eq_some_iff.1 (hr' (xs.length - 1) (by omega))).1
        omega
      simp only [rdN, hb]
      rw [if_pos hl]
      congr 1
      apply List.ext_getElem?
      intro i
      by_cases hi : i < xs.length
      · rw [List.getElem?_take_of_lt hi, List.getElem?_drop, hr' i hi]
        simp [hi, nth]
      · rw [List.getElem?_eq_none (by simp; omega), List.getElem?_eq_none (by simp; omega)]
    | _ => rw [hb] at h0; simp [rdO] at h0
end Go.Ai
namespace Go.Proofs.Ytjlkndkedknocaa
open Go Go.Ai
set_option linter.unusedSimpArgs false
set_option linter.unusedVariables false
attribute [local instance] Classical.propDecidable
theorem mat_at {h : List O} {v : Value} {A : List (List Int)} (hm : Mat h v A) : ∃ a b o c, ∃ vs : Nat → Value, v = .slice a A.length c ∧ (0 < A.length → a = some ⟨b, o, none⟩) ∧ (∀ i, i < A.length → rdO h[b]? (o + i) = some (vs i) ∧ Ints h (vs i) (nthR A i)) ∧ A.length < 2 ^ 62 := by
  obtain ⟨a, b, o, c, vs, h1, h2, h3, h4⟩ := hm
  exact ⟨a, b, o, c, vs, h1, h2, fun i hi => ⟨by rw [← rd_def]; exact (h3 i hi).1, (h3 i hi).2⟩, h4⟩
variable {E : Env} (hE : OE E)
include hE
theorem sameRels_ {h : List O} {va vb : Value} {A B : List (List Int)} (hx : Mat h va A) (hy : Mat h vb B) :
    DR E 79 [va, vb] ⟨h, h.length⟩ (.ret (.bool (decide (A = B)))) ⟨h, h.length⟩ := by
  refine hE.fn (body := rb79) rfl ?_
  unfold rb79
  obtain ⟨xa, xb, xo, xc, xs, rfl, ha, hxr, hxl⟩ := mat_at hx
  obtain ⟨ya, yb, yo, yc, ys, rfl, hb, hyr, hyl⟩ := mat_at hy
  have hsc : ∀ b : Bool, (Out.ret (.bool b)).scalar = true := fun _ => rfl
  by_cases hl : A.length = B.length
  · have hl' : (A.length : Int) = B.length := by omega
    simp [hl']
    refine DW_loop (fun kk fr st => ∃ (i : Nat), i + kk = B.length ∧ st = ⟨h, h.length⟩ ∧ (∀ j, j < i → nthR A j = nthR B j) ∧ get fr 0 = .slice xa A.length xc ∧ get fr 1 = .slice ya B.length yc ∧ get fr 12 = .int .i64 B.length ∧ get fr 13 = .int .i64 i) ?_ (k := B.length) ?_
    · rintro kk fr st ⟨i, hik, rfl, hd, g0, g1, g12, g13⟩
      by_cases hi : i < B.length
      · have hw : IntKind.i64.wrap ((i : Int) + 1) = (i : Int) + 1 := by rw [w64_id] <;> omega
        have hi' : i < A.length := by omega
        obtain rfl := ha (by omega)
        obtain rfl := hb (by omega)
        obtain ⟨r1, r2⟩ := hxr i hi'
        obtain ⟨r3, r4⟩ := hyr i hi
        have hs := sameI_ hE r2 r4
        by_cases he : nthR A i = nthR B i
        · rw [decide_eq_true he] at hs
          simp [g0, g1, g12, g13, hi, hi', hl, rd_def, r1, r3, DC_of hs, hw, bit]
          refine ⟨kk - 1, by omega, i + 1, by omega, fun j hj => ?_, by omega⟩
          by_cases e : j = i
          · rw [e]; exact he
          · exact hd j (by omega)
        · have hne : ¬ A = B := fun e => he (by rw [e])
          rw [decide_eq_false he] at hs
          simp [g0, g1, g12, g13, hi, hi', hl, rd_def, r1, r3, DC_of hs, hne, endK_ret, back, hsc, bit]
      · obtain rfl : i = B.length := by omega
        have heq : A = B := by
          apply List.ext_getElem hl
          intro j h1 h2
          have := hd j h2
          simpa [nthR, h1, h2] using this
        simp [g0, g1, g12, g13, heq, endK_ret, back, hsc]
    · exact ⟨0, by omega, rfl, fun j hj => by omega, by simp [hl]⟩
  · have hl' : ¬ (A.length : Int) = B.length := by omega
    have hne : ¬ A = B := fun e => hl (by rw [e])
    simp [hl, hl', hne, endK_ret, back, hsc]
end Go.Proofs.Ytjlkndkedknocaa
namespace Go.Proofs.Ytjlkndkedknocaa
open Go Go.Ai
set_option linter.unusedSimpArgs false
set_option linter.unusedVariables false
attribute [local instance] Classical.propDecidable
def CpI (h : List O) (lo : Nat) (A : List (List Int)) (i : Nat) (vs : List Value) : Prop :=
  ∀ q, q < i → ∃ w, vs[q]? = some w ∧ ((nthR A q = [] ∧ w = .slice none 0 0) ∨ ∃ b, w = .slice (some ⟨b, 0, none⟩) (nthR A q).length (nthR A q).length ∧ lo ≤ b ∧ h[b]? = some (.cells (intsC (nthR A q)) 3 (some 1)))
theorem CpI.mat {h : List O} {lo : Nat} {A : List (List Int)} {vs : List Value} {v : Value} (hI : CpI h lo A A.length vs) (hu : OwnS h lo v A.length vs 34 1) (hA : A.length < 2 ^ 62) (hb : ∀ q, q < A.length → (∀ i, I64 (nth (nthR A q) i)) ∧ (nthR A q).length < 2 ^ 62) : Mat h v A := by
  obtain ⟨h1, h2⟩ := hu
  rcases h2 with ⟨rfl, h0⟩ | ⟨b, s, rfl, hbl, hc, _⟩
  · have : A = [] := List.length_eq_zero_iff.1 h0
    subst this
    exact ⟨none, 0, 0, 0, fun _ => undef, rfl, fun h => absurd h (by simp), fun i hi => absurd hi (by simp), by simp⟩
  · refine ⟨_, b, 0, A.length, fun q => (vs[q]?).getD undef, rfl, fun _ => rfl, fun q hq => ?_, hA⟩
    obtain ⟨w, r1, r2⟩ := hI q hq
    refine ⟨by rw [rd_def, hc, Nat.zero_add]; simp [r1], ?_⟩
    simp only [r1, Option.getD_some]
    obtain ⟨k1, k2⟩ := hb q hq
    rcases r2 with ⟨e, rfl⟩ | ⟨b2, rfl, _, r3⟩
    · rw [e]
      exact ⟨none, 0, 0, 0, rfl, fun h => absurd h (by simp), fun i hi => absurd hi (by simp), fun i => by rw [nth_ge (by simp)]; decide, by simp⟩
    · exact ⟨_, b2, 0, _, rfl, fun _ => rfl, fun j hj => by rw [rd_def, r3, Nat.zero_add]; exact intsC_get hj, k1, k2⟩
theorem append_n0 {el : TypeId} {size bytes c : Nat} {a : Option Addr} {st : St} : appendV el size bytes (.slice none 0 0) (.slice a 0 c) st = some (.slice none 0 0, st) := by
  have : readSlice st.h size 0 a = some [] := by unfold readSlice; split <;> simp
  simp [appendV, this, appendCells]
theorem append_nN {el : TypeId} {size bytes b o n c fl : Nat} {H : List O} {l : List Value} (hr : rdN H b o (n * size) = some l) (hn : 0 < n) (hs : 0 < size) (hall : l.all one1 = true) (hroom : n * bytes ≤ roomMax) :
    appendV el size bytes (.slice none 0 0) (.slice (some ⟨b, o, none⟩) n c) ⟨H, fl⟩ = some (.slice (some ⟨H.length, 0, none⟩) n n, ⟨H ++ [.cells l el (some size)], fl⟩) := by
  have hns : ¬ n * size = 0 := by
    have := Nat.mul_pos hn hs; omega
  have hrd : readSlice H size n (some ⟨b, o, none⟩) = some l := by simp only [readSlice]; rw [if_neg hns]; exact hr
  simp only [appendV, hrd, bind, Option.bind_some, appendCells]
  rw [if_neg (by omega), if_neg (by omega), if_pos ⟨by rw [Nat.zero_add]; exact hroom, hall⟩]
  simp [readSlice, kill]
theorem copyC {H1 : List O} {a : Option Addr} {n c fl : Nat} {x : Nat → Nat → Int} {s : Nat → Int} (hx : CrossP H1 a n x s) (hroom : n * 40 ≤ roomMax) :
    ∃ a' c' H2, appendV 107 5 40 (.slice none 0 0) (.slice a n c) ⟨H1, fl⟩ = some (.slice a' n c', ⟨H2, fl⟩) ∧ Sub H1 H2 ∧ CrossP H2 a' n x s := by
  rcases Nat.eq_zero_or_pos n with hn | hn
  · subst hn
    exact ⟨none, 0, H1, append_n0, Sub.refl _, 0, 0, fun h => by omega, fun i h => by omega⟩
  · obtain ⟨b, o, l, rfl, hl, hlen, hall, hparts⟩ := hx.whole hn
    have hap := append_nN (el := 107) (bytes := 40) (c := c) (fl := fl) hl hn (by omega) hall hroom
    refine ⟨_, _, _, hap, (Sub.refl _).app _, H1.length, 0, fun _ => rfl, fun i hi => ?_⟩
    rw [rdN_at0]
    simp only [List.getElem?_cons_zero, rdNO_cells]
    rw [if_pos (by omega), Nat.zero_add, hparts i hi]
theorem copyR {H1 : List O} {w : Value} {row : List Int} {fl : Nat} (hx : Ints H1 w row) (hroom : row.length * 8 ≤ roomMax) :
    ∃ w' H2, appendV 3 1 8 (.slice none 0 0) w ⟨H1, fl⟩ = some (w', ⟨H2, fl⟩) ∧ Sub H1 H2 ∧ one1 w' = true ∧ w'.cells = #[w'] ∧ ((row = [] ∧ w' = .slice none 0 0) ∨ ∃ b, w' = .slice (some ⟨b, 0, none⟩) row.length row.length ∧ H1.length ≤ b ∧ H2[b]? = some (.cells (intsC row) 3 (some 1))) := by
  obtain ⟨a, b, o, c, rfl, ha, hr, hl⟩ := ints_at hx
  rcases Nat.eq_zero_or_pos row.length with hn | hn
  · have e : row = [] := List.length_eq_zero_iff.1 hn
    subst e
    exact ⟨.slice none 0 0, H1, append_n0, Sub.refl _, rfl, rfl, .inl ⟨rfl, rfl⟩⟩
  · obtain rfl := ha hn
    have hrd := ints_rdN (c := c) (n := 0) hr hn
    have hrd' : rdN H1 b o (row.length * 1) = some (intsC row) := by rw [Nat.mul_one]; exact hrd
    have hap := append_nN (el := 3) (bytes := 8) (c := c) (fl := fl) hrd' hn (by omega) (by simp [intsC, one1]) hroom
    exact ⟨_, _, hap, (Sub.refl _).app _, rfl, rfl, .inr ⟨H1.length, rfl, Nat.le_refl _, by rw [app_at0]; rfl⟩⟩
theorem law14 {E : Env} (hW : WE E) {h0 : List O} {a : Option Addr} {n c : Nat} {x : Nat → Nat → Int} {s : Nat → Int} {L k : Int} {vA : Value} {A : List (List Int)} (hx : CrossP h0 a n x s) (hroom : n * 40 ≤ roomMax) (hA : Mat h0 vA A) (hrows : ∀ i, i < A.length → (nthR A i).length * 8 ≤ roomMax) :
    DR E 14 [dV a n c L, .int .i64 k, vA] ⟨h0, h0.length⟩ (.ret (.bool true)) ⟨h0, h0.length⟩ := by
  have hE := hW.oe
  refine hE.fn (body := rb14) rfl ?_
  unfold rb14
  obtain ⟨va, vb, vo, vc, vs, rfl, ha, hvr, hvl⟩ := mat_at hA
  have hsc : (Out.ret (.bool true)).scalar = true := rfl
  obtain ⟨hB, hhB⟩ : ∃ H, H = h0 ++ [O.cells [.slice a n c, .int .i64 L] 24 (some 0)] := ⟨_, rfl⟩
  have hBs : Sub h0 hB := by rw [hhB]; exact (Sub.refl _).app _
  have lB : hB.length = h0.length + 1 := by rw [hhB]; simp
  have hB0 : hB[h0.length]? = some (O.cells [.slice a n c, .int .i64 L] 24 (some 0)) := by rw [hhB, app_at0]; rfl
  have hsane := saneW_ hW (h0 := hB)
  have hj0 : joined ⟨hB, h0.length⟩ ⟨hB, hB.length⟩ = ⟨hB, h0.length⟩ := joined_mk _ _
  by_cases hn60 : 60 < n
  · have hn60' : 60 < (n : Int) := by omega
    simp [dV, ← hhB, rd_def, hB0, hn60, hn60', DC_of hsane, hj0, endK_ret, back, hsc]
  · have hn60' : ¬ 60 < (n : Int) := by omega
    by_cases hA100 : 100 < A.length
    · have hA100' : 100 < (A.length : Int) := by omega
      simp [dV, ← hhB, rd_def, hB0, hn60, hn60', hA100, hA100', DC_of hsane, hj0, endK_ret, back, hsc]
    · have hA100' : ¬ 100 < (A.length : Int) := by omega
      obtain ⟨h1, hh1⟩ : ∃ H, H = hB ++ [O.cells [.slice none 0 0, .int .i64 0] 24 (some 0)] := ⟨_, rfl⟩
      obtain ⟨K, hK⟩ : ∃ K, K = hB.length := ⟨_, rfl⟩
      have s1 : Sub hB h1 := by rw [hh1]; exact (Sub.refl _).app _
      have k1 : h1[K]? = some (O.cells [.slice none 0 0, .int .i64 0] 24 (some 0)) := by rw [hh1, hK, app_at0]; rfl
      have b1 := s1 _ _ hB0
      obtain ⟨a', c', h2, hap, s2, hx2⟩ := copyC (c := c) (fl := h0.length) (hx.sub (hBs.trans s1)) hroom
      have k2 := s2 _ _ k1
      have b2 := s2 _ _ b1
      obtain ⟨h3, hh3⟩ : ∃ H, H = h2.set K (O.cells [.slice a' n c', .int .i64 L] 24 (some 0)) := ⟨_, rfl⟩
      have hlt : h0.length < K := by omega
      have hmK : min h0.length K = h0.length := by omega
      have k3 : h3[K]? = some (O.cells [.slice a' n c', .int .i64 L] 24 (some 0)) := by rw [hh3]; exact set_self k2
      simp [dV, ← hhB, rd_def, hB0, hn60, hn60', hA100, hA100']
      rw [← hh1, ← hK]
      have hset : (h2.set K (O.cells [.slice a' n c', .int .i64 0] 24 (some 0)))[K]? = some (O.cells [.slice a' n c', .int .i64 0] 24 (some 0)) := set_self k2
      have hset0 : (h2.set K (O.cells [.slice a' n c', .int .i64 0] 24 (some 0)))[h0.length]? = some (O.cells [.slice a n c, .int .i64 L] 24 (some 0)) := set_ne b2 (by omega)
      simp [↓b1, ↓k1, hap, wrN_def, k2, hmK, ↓hset, ↓hset0, rd_def, List.set_set, ← hh3]
      have l3 : h3.length = h2.length := by rw [hh3]; simp
      have lK := (List.getElem?_eq_some_iff.1 k3).1
      have b3 : h3[h0.length]? = some (O.cells [.slice a n c, .int .i64 L] 24 (some 0)) := by rw [hh3]; exact set_ne b2 (by omega)
      have s03 : Sub h0 h3 := fun b o hb => by
        have := (List.getElem?_eq_some_iff.1 hb).1
        rw [hh3]
        exact set_ne (s2 _ _ (s1 _ _ (hBs _ _ hb))) (by omega)
      have hx3 : CrossP h3 a' n x s := by
        obtain ⟨b, o, z1, z2⟩ := hx2
        refine ⟨b, o, z1, fun i hi => ?_⟩
        have z3 := z2 i hi
        have hne : b ≠ K := fun e => by
          subst e
          rw [rdN_def, k2, rdNO_cells, if_neg (by simp)] at z3
          cases z3
        rw [rdN_def, hh3, List.getElem?_set_ne (Ne.symm hne), ← rdN_def]
        exact z3
      refine DW_loop (fun kk fr st => ∃ (i : Nat) (h : List O) (v : Value) (vs' : List Value), i + kk = A.length ∧ st = ⟨h, h0.length⟩ ∧ Sub h3 h ∧ OwnS h h3.length v i vs' 34 1 ∧ CpI h h3.length A i vs' ∧ h3.length ≤ h.length ∧
        get fr 1 = .int .i64 k ∧ get fr 2 = .slice va A.length vc ∧ get fr 3 = .pointer (some ⟨h0.length, 0, none⟩) ∧ get fr 7 = .pointer (some ⟨K, 0, none⟩) ∧ get fr 8 = v ∧ get fr 31 = .slice va A.length vc ∧ get fr 32 = .int .i64 A.length ∧ get fr 33 = .int .i64 i) ?_ (k := A.length) ?_
      · rintro kk fr st ⟨i, h, v, vs', hik, rfl, hs, hu, hI, hl, g1, g2, g3, g7, g8, g31, g32, g33⟩
        by_cases hi : i < A.length
        · have hw : IntKind.i64.wrap ((i : Int) + 1) = (i : Int) + 1 := by rw [w64_id] <;> omega
          obtain rfl := ha (by omega)
          obtain ⟨r1, r2⟩ := hvr i hi
          have hsub : Sub h0 h := s03.trans hs
          obtain ⟨w', h5, happ1, s5, one5, cs5, hcase⟩ := copyR (fl := h0.length) (r2.sub hsub) (hrows i hi)
          have r1' := Ai.Sub.rdO hsub r1
          have l5 := Sub.len s5
          have hread : readSlice (h5 ++ [.cells [w'] 34 (some 0)]) 1 1 (some ⟨h5.length, 0, none⟩) = some [w'] := by simp [readSlice, rdN_at0]
          have hu5 : OwnS (h5 ++ [.cells [w'] 34 (some 0)]) h3.length v i vs' 34 1 := hu.keep fun b s' e1 e2 => by
            rcases hu.2 with ⟨z1, _⟩ | ⟨b2, s2', z1, z2, z3, _⟩
            · rw [z1] at e1; cases e1
            · exact app_of (s5 _ _ e2) _
          obtain ⟨b', h6, f6, happ2, hb', hown, hf1, hf2, hL6, K6⟩ := append_S (fl := h0.length) (c := 1) (bytes := 24) hu5 hread (by simp) (by simp [one5]) (by simp; omega) (by simp only [roomMax]; omega) (by omega)
          obtain rfl : f6 = h0.length := by omega
          have hvlow : ∀ b, (∃ cs' ow, h5[b]? = some (.cells cs' 3 ow)) ∨ b < h3.length → ∀ n c, v ≠ .slice (some ⟨b, 0, none⟩) n c := fun b hb n c e => by
            rcases hu.2 with ⟨z1, _⟩ | ⟨b2, s2', z1, z2, z3, _⟩
            · rw [z1] at e; cases e
            · rw [z1] at e
              simp only [Value.slice.injEq, Option.some.injEq, Addr.mk.injEq] at e
              rcases hb with ⟨cs', ow, hb⟩ | hb
              · obtain ⟨⟨rfl, _⟩, _⟩ := e
                rw [s5 _ _ z3] at hb
                cases hb
              · omega
          simp [g1, g2, g3, g7, g8, g31, g32, g33, hi, rd_def, r1', happ1, one5, cs5, happ2, hw]
          have hvl' : vs'.length = i := by have := hu.1; omega
          refine ⟨kk - 1, by omega, i + 1, by omega, fun b o hb => ?_, _, vs' ++ [w'], ?_, fun q hq => ?_, by simp at hL6; omega, rfl, by omega⟩
          · have := (List.getElem?_eq_some_iff.1 hb).1
            exact K6 b o (app_of (s5 _ _ (hs _ _ hb)) _) (hvlow b (.inr (by omega)))
          · simpa using hown
          · by_cases hq' : q < i
            · obtain ⟨w, y1, y2⟩ := hI q hq'
              refine ⟨w, by rw [List.getElem?_append_left (by omega)]; exact y1, ?_⟩
              rcases y2 with y2 | ⟨b2, y3, y4, y5⟩
              · exact .inl y2
              · exact .inr ⟨b2, y3, y4, K6 b2 _ (app_of (s5 _ _ y5) _) (hvlow b2 (.inl ⟨_, _, s5 _ _ y5⟩))⟩
            · obtain rfl : q = i := by omega
              refine ⟨w', by rw [List.getElem?_append_right (by omega), hvl', Nat.sub_self]; rfl, ?_⟩
              rcases hcase with y2 | ⟨b2, y3, y4, y5⟩
              · exact .inl y2
              · exact .inr ⟨b2, y3, by omega, K6 b2 _ (app_of y5 _) (hvlow b2 (.inl ⟨_, _, y5⟩))⟩
        · obtain rfl : i = A.length := by omega
          have hsub : Sub h0 h := s03.trans hs
          have hMv : Mat h v A := hI.mat hu hvl fun q hq => by
            obtain ⟨_, _, _, _, _, _, _, z1, z2⟩ := (hvr q hq).2
            exact ⟨z1, z2⟩
          have b4 := hs _ _ b3
          have hxh := hx.sub hsub
          have q75 : DC E 75 [.agg #[.slice a n c, .int .i64 L]] ⟨h, h.length⟩ fun o st' => (∃ v, o = .ret v) ∧ h.length ≤ st'.fl ∧ Sub h st'.h := (arches_ hE (c := c) (L := L) hxh).imp fun o st' hq => by
            rcases hq with ⟨_, rfl, rfl⟩ | ⟨_, b, rfl, z1, z2, _⟩
            · exact ⟨⟨_, rfl⟩, Nat.le_refl _, Sub.refl _⟩
            · exact ⟨⟨_, rfl⟩, z2, z1⟩
          simp [g1, g2, g3, g7, g8, g31, g32, g33, rdN_def, ↓b4]
          refine q75.imp ?_
          rintro o ⟨h5, f5⟩ ⟨⟨v5, rfl⟩, hf5, s5⟩
          simp only at hf5 s5
          have b5 := s5 _ _ b4
          have q63 : DC E 63 [.agg #[.slice a n c, .int .i64 L]] ⟨h5, h5.length⟩ fun o st' => (∃ v, o = .ret v) ∧ h5.length ≤ st'.fl ∧ Sub h5 st'.h := (ofW_ hE (c := c) (L := L) (hxh.sub s5)).imp fun o st' hq => by
            rcases hq with ⟨_, rfl, z1, z2⟩ | ⟨_, b, rfl, z1, z2, _⟩
            · exact ⟨⟨_, rfl⟩, z2, z1⟩
            · exact ⟨⟨_, rfl⟩, z2, z1⟩
          simp [joined_fl, hf5, g1, g2, g3, g7, g8, rdN_def, ↓b5]
          refine q63.imp ?_
          rintro o ⟨h6, f6⟩ ⟨⟨v6, rfl⟩, hf6, s6⟩
          simp only at hf6 s6
          have b6 := s6 _ _ b5
          have hx6 := (hxh.sub s5).sub s6
          have q69 := meridian_ hE (c := c) (L := L) hx6 k
          obtain ⟨v69, hv69⟩ : ∃ v, v = (if kindD n x s L ≠ 0 then Value.tuple #[.int .i64 0, .int .i64 (kindD n x s L)] else if 0 ≤ k ∧ k < cpK (dgOf n x s L) + L then Value.tuple #[.int .i64 (merD (dgOf n x s L) k), .int .i64 0] else Value.tuple #[.int .i64 0, .int .i64 1]) := ⟨_, rfl⟩
          rw [← hv69] at q69
          simp only [dV] at q69
          have q70 : DC E 70 [.agg #[.slice a n c, .int .i64 L], .int .i64 k] ⟨h6, h6.length⟩ fun o st' => (∃ v, o = .ret v) ∧ h6.length ≤ st'.fl ∧ Sub h6 st'.h := (longitude_ hE hW.walk (c := c) (L := L) hx6 k).imp fun o st' hq => by
            rcases hq with ⟨_, rfl, rfl⟩ | ⟨_, _, rfl, rfl⟩ | ⟨_, _, b, rfl, z1, z2, _⟩
            · exact ⟨⟨_, rfl⟩, Nat.le_refl _, Sub.refl _⟩
            · exact ⟨⟨_, rfl⟩, Nat.le_refl _, Sub.refl _⟩
            · exact ⟨⟨_, rfl⟩, z2, z1⟩
          simp [joined_fl, hf6, g1, g2, g3, g7, g8, rdN_def, ↓b6, DC_of q69]
          refine q70.imp ?_
          rintro o ⟨h7, f7⟩ ⟨⟨v7, rfl⟩, hf7, s7⟩
          simp only at hf7 s7
          have b7 := s7 _ _ b6
          have hx7 := hx6.sub s7
          have s07 : Sub h h7 := fun b o hb => s7 _ _ (s6 _ _ (s5 _ _ hb))
          have k7 := s07 _ _ (hs _ _ k3)
          have q57 := countW_ hE hW.kept (c := c) (L := L) (k := 2) hx7
          have hA7 := hA.sub (fun b o hb => s07 b o (hsub b o hb))
          have q67 := checkW_ hE (c := c) (L := L) hx7 hA7 hrows
          have q56 := saneW_ hW (h0 := h7)
          have q40 := Same_ hE (c := c) (c' := c') (L := L) hx7 ((hx3.sub hs).sub s07) hroom
          have q79 := sameRels_ hE hA7 (hMv.sub s07)
          rw [decide_eq_true rfl] at q79
          simp only [dV] at q57 q67 q40
          simp [joined_fl, hf7, g1, g2, g3, g7, g8, rdN_def, ↓b7, ↓k7, DC_of q57, DC_of q67, DC_of q56, DC_of q40, DC_of q79, endK_ret, back, hsc]
      · exact ⟨0, h3, .slice none 0 0, [], by omega, rfl, Sub.refl _, OwnS.nil _ _ _ _, fun q hq => by omega, Nat.le_refl _, by simp⟩
end Go.Proofs.Ytjlkndkedknocaa
