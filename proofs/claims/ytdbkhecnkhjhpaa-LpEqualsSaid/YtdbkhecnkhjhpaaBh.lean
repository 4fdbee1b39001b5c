/- Texts that were built one by one: Ls1, Ls2, Ls3, Ls4, Ls5, Ls6, Ls7, Ls8, Ls9. -/
import Derived.Test.YtdbkhecnkhjhpaaBg
import Derived.Test.YtdbkhecnkhjhpaaBf
import Derived.Test.YtdbkhecnkhjhpaaBe
/- The size of a program; copies of rows. -/
namespace Go.Proofs.Ytdbkhecnkhjhpaa
open Go Go.Ai
set_option linter.unusedSimpArgs false
set_option linter.unusedVariables false
attribute [local instance] Classical.propDecidable
variable {E : Env} (hE : LpE E)

theorem append_empty {H : List O} {fl n c : Nat} {new : List Value} {el : TypeId} {size bytes : Nat} {xb : Option Addr} (hx : readSlice H size n xb = some new) (hone : new.all one1 = true) (hroom : n * bytes ≤ roomMax) (hn : 0 < n) :
    appendV el size bytes emptyS (.slice xb n c) ⟨H, fl⟩ = some (.slice (some ⟨H.length, 0, none⟩) n n, ⟨H ++ [.cells new el (some size)], fl⟩) := by
  simp only [emptyS, appendV, hx, bind, Option.bind_some, appendCells]
  rw [if_neg (by omega), if_neg (by omega), if_pos ⟨by simpa using hroom, hone⟩]
  simp [readSlice, kill]
theorem read_ints {h : List O} {b o : Nat} {xs : List Int} (hr : ∀ i, i < xs.length → rd h b (o + i) = some (.int .i64 (nth xs i))) (hn : 0 < xs.length) : readSlice h 1 xs.length (some ⟨b, o, none⟩) = some (xs.map (.int .i64)) := by
  have h0 := hr 0 hn
  simp only [rd] at h0
  cases hb : h[b]? with
  | none => simp [hb] at h0
  | some x =>
    cases x with
    | cells cs el own =>
      have hc : ∀ i, i < xs.length → cs[o + i]? = some (.int .i64 (nth xs i)) := fun i hi => by
        have := hr i hi; simpa [rd, hb] using this
      have hle : o + xs.length ≤ cs.length := by
        have := (List.getElem?_eq_some_iff.1 (hc (xs.length - 1) (by omega))).1; omega
      simp only [readSlice, rdN, hb]
      rw [if_neg (by omega), if_pos (by simpa using hle)]
      congr 1
      apply List.ext_getElem?
      intro i
      rw [List.getElem?_take]
      by_cases hi : i < xs.length
      · rw [if_pos (by simpa using hi), List.getElem?_drop, hc i hi]
        simp [nth, hi]
      · rw [if_neg (by simpa using hi), List.getElem?_eq_none (by simp; omega)]
    | _ => simp [hb] at h0

def absS (xs : List Int) (n : Nat) : Nat := nsum (fun i => (nth xs i).natAbs) n
def allZ (xs : List Int) : Nat := max 1 (absS xs xs.length)
theorem absS_le {xs : List Int} {M : Nat} (h : Within xs M) : ∀ n, n ≤ xs.length → absS xs n ≤ n * M := by
  intro n
  induction n with
  | zero => intro _; simp [absS, nsum]
  | succ n ih =>
    intro hn
    have h1 := ih (by omega)
    have h2 := h n (by omega)
    simp only [absS, nsum] at h1 ⊢
    rw [Nat.add_mul]
    omega

include hE
theorem clone56 {h : List O} {v : Value} {xs : List Int} (hv : Ints h v xs) (hn : 0 < xs.length) (hl : xs.length ≤ 1000000) :
    DR E 56 [v] ⟨h, h.length⟩ (.ret (.slice (some ⟨h.length, 0, none⟩) xs.length xs.length)) ⟨h ++ [.cells (xs.map (.int .i64)) 3 (some 1)], h.length⟩ := by
  refine hE.fn (body := rb56) rfl (by decide) ?_
  unfold rb56
  obtain ⟨a, b, o, c, rfl, h2, h3, h4, h5⟩ := hv
  obtain rfl := h2 hn
  have e := append_empty (H := h) (fl := h.length) (n := xs.length) (c := c) (el := 3) (size := 1) (bytes := 8) (read_ints h3 hn) (by simp [one1]) (by simp [roomMax]; omega) hn
  simp [e, back, Out.scalar, scalar, flat1, flat]
theorem all55 {h : List O} {v : Value} {xs : List Int} (hv : Ints h v xs) (hw : Within xs 1000000) (hl : xs.length ≤ 1000) :
    DR E 55 [v] ⟨h, h.length⟩ (.ret (.int .i64 (allZ xs))) ⟨h, h.length⟩ := by
  refine hE.fn (body := rb55) rfl (by decide) ?_
  unfold rb55
  obtain ⟨a, b, o, c, rfl, h2, h3, h4, h5⟩ := hv
  simp
  refine DW_loop (fun k fr st => ∃ i : Nat, i + k = xs.length ∧ st = ⟨h, h.length⟩ ∧ get fr 6 = .slice a xs.length c ∧ get fr 7 = .int .i64 xs.length ∧ get fr 8 = .int .i64 i ∧ get fr 3 = .int .i64 (absS xs i)) ?_ (k := xs.length) ?_
  · rintro k fr st ⟨i, hi, rfl, g6, g7, g8, g3⟩
    by_cases hlt : i < xs.length
    · obtain rfl := h2 (by omega)
      have ha := abs46 hE (h := h) (x := nth xs i) (by have := hw i hlt; omega)
      have hb := absS_le (M := 1000000) hw (i + 1) (by omega)
      simp [g6, g7, g8, g3, hlt, h3 i hlt, DC_of ha]
      refine ⟨k - 1, by omega, i + 1, by omega, by rw [w64_id] <;> omega, ?_⟩
      rw [w64_id] <;> simp only [absS, nsum] at hb ⊢ <;> omega
    · have : i = xs.length := by omega
      subst this
      simp [g6, g7, g8, g3, allZ]
      omega
  · exact ⟨0, by simp [absS, nsum]⟩
end Go.Proofs.Ytdbkhecnkhjhpaa
/- The size of a program. -/
namespace Go.Proofs.Ytdbkhecnkhjhpaa
open Go Go.Ai
set_option linter.unusedSimpArgs false
set_option linter.unusedVariables false
attribute [local instance] Classical.propDecidable
variable {E : Env} (hE : LpE E)

def szN (A : List (List Int)) (B C : List Int) : Nat → Nat
  | 0 => allZ C
  | i + 1 => min (szN A B C i) 268435457 * allZ (nthR A i ++ [nth B i])
def sizeZ (A : List (List Int)) (B C : List Int) : Nat := min (szN A B C A.length) 268435457
theorem nth_snoc_lt {xs : List Int} {y : Int} {i : Nat} (h : i < xs.length) : nth (xs ++ [y]) i = nth xs i := by
  simp [nth, List.getElem?_append_left h]
theorem nth_snoc_eq {xs : List Int} {y : Int} : nth (xs ++ [y]) xs.length = y := by simp [nth]
theorem Within.snoc {xs : List Int} {y m : Int} (h : Within xs m) (hy : -m ≤ y ∧ y ≤ m) : Within (xs ++ [y]) m := by
  intro i hi
  simp at hi
  by_cases e : i < xs.length
  · rw [nth_snoc_lt e]; exact h i e
  · have : i = xs.length := by omega
    subst this; rw [nth_snoc_eq]; exact hy
theorem allZ_le {xs : List Int} (h : Within xs 1000000) (hl : xs.length ≤ 61) : 1 ≤ allZ xs ∧ allZ xs ≤ 61000000 := by
  have := absS_le (M := 1000000) h xs.length (Nat.le_refl _)
  unfold allZ
  have h2 : xs.length * 1000000 ≤ 61 * 1000000 := Nat.mul_le_mul_right _ hl
  omega
theorem Valid.row {A : List (List Int)} {B C : List Int} (hv : Valid A B C) {i : Nat} (hi : i < A.length) : Within (nthR A i ++ [nth B i]) 1000000 ∧ (nthR A i ++ [nth B i]).length ≤ 61 := by
  obtain ⟨h1, h2, h3, h4, h5, h6, h7⟩ := hv
  obtain ⟨k1, k2⟩ := h7 i hi
  exact ⟨k2.snoc (h5 i (by omega)), by simp; omega⟩
theorem szN_le {A : List (List Int)} {B C : List Int} (hv : Valid A B C) : ∀ i, i ≤ A.length → 1 ≤ szN A B C i ∧ szN A B C i ≤ 268435457 * 61000000
  | 0, _ => by
    have := allZ_le hv.2.2.2.2.2.1 (by have := hv.2.2.2.1; omega)
    simp only [szN]; omega
  | i + 1, h => by
    have h1 := szN_le hv i (by omega)
    have h2 := allZ_le (hv.row (i := i) (by omega)).1 (hv.row (i := i) (by omega)).2
    simp only [szN]
    refine ⟨Nat.mul_pos (by omega) (by omega), Nat.mul_le_mul (Nat.min_le_right _ _) h2.2⟩

include hE
theorem size37 {h : List O} {v : Value} {A : List (List Int)} {B C : List Int} (hp : LpAt h v A B C) (hv : Valid A B C) :
    DR E 37 [v] ⟨h, h.length⟩ (.ret (.int .i64 (sizeZ A B C))) ⟨h, h.length⟩ := by
  refine hE.fn (body := rb37) rfl (by decide) ?_
  unfold rb37
  rw [DW_seq, DW_ops]
  refine DL_boxed fun h' p hx hlen hp0 hb => ?_
  simp at hb
  replace hp := hp.ext hx
  obtain ⟨vA, vB, vC, rfl, r0, r1, r2, rN, hA, hB, hC⟩ := boxLp (h := h) hb rfl hp
  have hC0 := hC
  obtain ⟨aB, bB, oB, cB, rfl, hB2, hB3, hB4, hB5⟩ := hB
  obtain ⟨aA, bA, oA, cA, vs, rfl, hA2, hA3, hA4⟩ := hA
  obtain ⟨v1, v2, v3, v4, v5, v6, v7⟩ := hv
  have hv : Valid A B C := ⟨v1, v2, v3, v4, v5, v6, v7⟩
  have lC := all55 hE hC0 v6 (by omega)
  simp [r0, r2, DC_of lC]
  refine DW_loop (fun k fr st => ∃ i : Nat, i + k = A.length ∧ st.fl = h.length ∧ Ext h' st.h ∧ get fr 1 = .pointer (some ⟨p, 0, none⟩) ∧ get fr 10 = .slice aA A.length cA ∧ get fr 11 = .int .i64 A.length ∧ get fr 12 = .int .i64 i ∧ get fr 3 = .int .i64 (szN A B C i)) ?_ (k := A.length) ?_
  · rintro k fr ⟨H, f⟩ ⟨i, hi, hf, hH, g1, g10, g11, g12, g3⟩
    simp at hf hH
    subst hf
    by_cases hlt : i < A.length
    · obtain rfl := hA2 (by omega)
      obtain rfl := hB2 (by omega)
      obtain ⟨hr, hI⟩ := hA3 i hlt
      obtain ⟨w1, w2⟩ := hv.row hlt
      have hrow : (nthR A i).length = C.length := (v7 i hlt).1
      have hI' := hI.ext hH
      have lcl := clone56 hE hI' (by omega) (by omega)
      have hr' := hH.rd hr
      have r1' := (hH.trans (Ext.snoc H [.cells ((nthR A i).map (.int .i64)) 3 (some 1)])).rd r1
      have hB' := (hH.trans (Ext.snoc H [.cells ((nthR A i).map (.int .i64)) 3 (some 1)])).rd (hB3 i (by omega))
      obtain ⟨v', H', e1, e2, e3⟩ := append_own (h0 := H) (H := (H ++ [.cells ((nthR A i).map (.int .i64)) 3 (some 1)]) ++ [.cells [.int .i64 (nth B i)] 3 (some 0)]) (lo := H.length) (k := (nthR A i).length) (n := 1) (fl := h.length) (c := 1) (bytes := 8) (size := 1) (el := 3) (v := .slice (some ⟨H.length, 0, none⟩) (nthR A i).length (nthR A i).length) (cs := (nthR A i).map (.int .i64)) (xb := some ⟨H.length + 1, 0, none⟩) (new := [.int .i64 (nth B i)])
        ⟨by simp, .inr ⟨H.length, 1, rfl, Nat.le_refl _, by simp, .inr rfl⟩⟩ (by simp [readSlice, rdN]) rfl rfl ((Ext.snoc _ _).trans (Ext.snoc _ _)) rfl (by have := hx.len; have := hH.len; omega) (by simp [roomMax]; omega) (by omega)
      have hI2 : Ints H' v' (nthR A i ++ [nth B i]) := by
        refine OwnS.ints (lo := H.length) (k := (nthR A i).length + 1) (el := 3) ?_ (fun j => ?_) (by omega)
        · have : (nthR A i ++ [nth B i]).map (Value.int .i64) = (nthR A i).map (.int .i64) ++ [.int .i64 (nth B i)] := by simp
          rw [this]; exact e2
        · by_cases hj : j < (nthR A i ++ [nth B i]).length
          · have := w1 j hj; constructor <;> omega
          · rw [nth_ge (by omega)]; constructor <;> omega
      have l55 := all55 hE hI2 w1 (by omega)
      have s1 := szN_le hv i (by omega)
      have s2 := szN_le hv (i + 1) (by omega)
      have e5 : IntKind.i64.wrap (min (szN A B C i : Int) 268435457 * (allZ (nthR A i ++ [nth B i]) : Nat)) = ((szN A B C (i + 1) : Nat) : Int) := by
        have e6 : min (szN A B C i : Int) 268435457 * (allZ (nthR A i ++ [nth B i]) : Nat) = ((szN A B C (i + 1) : Nat) : Int) := by
          simp only [szN, Int.natCast_mul]
          congr 1
          omega
        rw [e6, w64_id] <;> omega
      have hiB : i < B.length := by omega
      simp [g1, g10, g11, g12, g3, hlt, hr', DC_of lcl, r1', hiB, hB', fillL, setL, show (H ++ [O.cells ((nthR A i).map (Value.int .i64)) 3 (some 1)]).length = H.length + 1 by simp, e1, DC_of l55, -List.append_assoc]
      refine ⟨⟨fun h => absurd h (by decide), fun h => absurd h (by decide), rfl⟩, rfl, k - 1, by omega, i + 1, by omega, hH.trans e3, by rw [w64_id] <;> omega, e5⟩
    · have : i = A.length := by omega
      subst this
      have s1 := szN_le hv A.length (Nat.le_refl _)
      simp [g1, g10, g11, g12, g3]
      simp only [sizeZ]
      omega
  · exact ⟨0, by simp [Ext.refl, szN]⟩
end Go.Proofs.Ytdbkhecnkhjhpaa
/- A tableau in memory. -/
namespace Go.Proofs.Ytdbkhecnkhjhpaa
open Go Go.Ai
set_option linter.unusedSimpArgs false
set_option linter.unusedVariables false
attribute [local instance] Classical.propDecidable
variable {E : Env} (hE : LpE E)

/-- Old memory is as it was. -/
def Keep (h0 h : List O) : Prop := h0.length ≤ h.length ∧ ∀ b, b < h0.length → h[b]? = h0[b]?
theorem Keep.refl (h : List O) : Keep h h := ⟨Nat.le_refl _, fun _ _ => rfl⟩
theorem Keep.ext {h0 h h' : List O} (k : Keep h0 h) (e : Ext h h') : Keep h0 h' := by
  obtain ⟨l, rfl⟩ := e
  exact ⟨by have := k.1; simp; omega, fun b hb => by rw [List.getElem?_append_left (by have := k.1; omega)]; exact k.2 b hb⟩
theorem Keep.of_ext {h h' : List O} (e : Ext h h') : Keep h h' := (Keep.refl h).ext e
theorem Keep.set {h0 h : List O} (k : Keep h0 h) {b : Nat} (hb : h0.length ≤ b) (o : O) : Keep h0 (h.set b o) :=
  ⟨by simpa using k.1, fun i hi => by rw [List.getElem?_set_ne (by omega)]; exact k.2 i hi⟩
theorem Keep.trans {a b c : List O} (k : Keep a b) (k' : Keep b c) : Keep a c := ⟨Nat.le_trans k.1 k'.1, fun i hi => by rw [k'.2 i (by have := k.1; omega), k.2 i hi]⟩
theorem Keep.rd {h0 h : List O} (k : Keep h0 h) {b i : Nat} {v : Value} (hr : Ai.rd h0 b i = some v) : Ai.rd h b i = some v := by
  have := rd_lt hr
  simp only [Ai.rd] at hr ⊢
  rw [k.2 b this]; exact hr
theorem Keep.ints {h0 h : List O} (k : Keep h0 h) {v : Value} {xs : List Int} (hv : Ints h0 v xs) : Ints h v xs := by
  obtain ⟨a, b, o, c, rfl, h2, h3, h4, h5⟩ := hv
  exact ⟨a, b, o, c, rfl, h2, fun i hi => k.rd (h3 i hi), h4, h5⟩

/-- The cells of a row of numbers. -/
def cellsF (N : Nat) (f : Nat → Int) : List Value := (List.range N).map fun j => .int .i64 (f j)
@[simp] theorem cellsF_length (N : Nat) (f : Nat → Int) : (cellsF N f).length = N := by simp [cellsF]
theorem cellsF_get {N j : Nat} {f : Nat → Int} (hj : j < N) : (cellsF N f)[j]? = some (.int .i64 (f j)) := by simp [cellsF, hj]
theorem cellsF_set {N j : Nat} {f : Nat → Int} {x : Int} (hj : j < N) : (cellsF N f).set j (.int .i64 x) = cellsF N fun k => if k = j then x else f k := by
  apply List.ext_getElem?
  intro i
  rw [List.getElem?_set]
  by_cases h : j = i
  · subst h; simp [hj, cellsF_get hj]; simp [cellsF, hj]
  · rw [if_neg h]
    by_cases hi : i < N
    · rw [cellsF_get hi, cellsF_get hi, if_neg (fun e => h e.symm)]
    · simp [cellsF, hi]
theorem cellsF_congr {N : Nat} {f g : Nat → Int} (h : ∀ j, j < N → f j = g j) : cellsF N f = cellsF N g := by
  unfold cellsF
  apply List.map_congr_left
  intro j hj
  rw [h j (List.mem_range.1 hj)]
def listF (N : Nat) (f : Nat → Int) : List Int := (List.range N).map f
@[simp] theorem listF_length (N : Nat) (f : Nat → Int) : (listF N f).length = N := by simp [listF]
theorem listF_nth {N j : Nat} {f : Nat → Int} (hj : j < N) : nth (listF N f) j = f j := by simp [nth, listF, hj]
theorem cellsF_list (N : Nat) (f : Nat → Int) : cellsF N f = (listF N f).map (.int .i64) := by simp [cellsF, listF]
theorem ints_cells {h : List O} {b o k N c : Nat} {el : TypeId} {own : Option Nat} {f : Nat → Int} (hb : h[b]? = some (.cells (cellsF N f) el own)) (hk : o + k ≤ N) (hN : N < 2 ^ 62) (hf : ∀ j, j < N → I64 (f j)) :
    Ints h (.slice (some ⟨b, o, none⟩) k c) (listF k fun j => f (o + j)) := by
  refine ⟨some ⟨b, o, none⟩, b, o, c, by simp, fun _ => rfl, fun i hi => ?_, fun i => ?_, by simp; omega⟩
  · simp at hi
    simp only [rd, hb]
    rw [cellsF_get (by omega), listF_nth hi]
  · by_cases hi : i < k
    · rw [listF_nth hi]; exact hf _ (by omega)
    · rw [nth_ge (by simp; omega)]; constructor <;> omega

/-- Where a tableau lies. -/
structure Lay where
  p : Nat
  br : Nat
  bb : Nat
  bm : Nat
  rb : Nat → Nat
  vA : Value
  vB : Value
  vC : Value
  vBas : Value
  m : Nat
  n : Nat
  F : Nat → Option O
def Lay.N (L : Lay) : Nat := L.n + L.m + 1
def Lay.M (L : Lay) : Nat := L.m + 1
theorem Lay.M_eq (L : Lay) : L.M = L.m + 1 := rfl
theorem Lay.N_eq (L : Lay) : L.N = L.n + L.m + 1 := rfl
structure Lay.Ok (L : Lay) (h0 : List O) : Prop where
  p : h0.length ≤ L.p
  br : h0.length ≤ L.br
  bb : L.m = 0 ∧ L.vBas = .slice none 0 0 ∨ h0.length ≤ L.bb ∧ L.vBas = .slice (some ⟨L.bb, 0, none⟩) L.m L.m ∧ L.bb ≠ L.p ∧ L.bb ≠ L.br ∧ L.bb ≠ L.bm ∧ ∀ i, i < L.M → L.rb i ≠ L.bb
  bm : h0.length ≤ L.bm
  rb : ∀ i, i < L.M → h0.length ≤ L.rb i ∧ L.rb i ≠ L.p ∧ L.rb i ≠ L.br ∧ L.rb i ≠ L.bm
  inj : ∀ i j, i < L.M → j < L.M → L.rb i = L.rb j → i = j
  pbr : L.p ≠ L.br
  pbm : L.p ≠ L.bm
  bbm : L.br ≠ L.bm
  small : L.m ≤ 60 ∧ L.n ≤ 60 ∧ 1 ≤ L.n
  frame : ∀ b x, L.F b = some x → b ≠ L.p ∧ b ≠ L.br ∧ b ≠ L.bm ∧ (0 < L.m → b ≠ L.bb) ∧ ∀ i, i < L.M → b ≠ L.rb i
def basZ (b : Option Nat) : Int := match b with
  | some c => c
  | none => -1
/-- The map says which row a column of the basis has. -/
structure MapOk (m : Nat) (bas : Nat → Option Nat) (l : List (Int × Int × Nat)) (clock : Nat) : Prop where
  only : ∀ x, x ∈ l → ∃ c r : Nat, x.1 = c ∧ x.2.1 = r ∧ r < m ∧ bas r = some c
  all : ∀ r c, bas r = some c → ∃ b, ((c : Int), (r : Int), b) ∈ l
  keys : l.Pairwise fun x y => x.1 ≠ y.1 ∧ x.2.2 ≠ y.2.2
  born : ∀ x, x ∈ l → x.2.2 < clock
structure TabAt (h0 : List O) (L : Lay) (s : Tab) (l : List (Int × Int × Nat)) (clock : Nat) (h : List O) : Prop where
  keep : Keep h0 h
  str : h[L.p]? = some (.cells [L.vA, L.vB, L.vC, .slice (some ⟨L.br, 0, none⟩) (L.M) (L.M), .int .i64 s.den, L.vBas, .map (some L.bm)] 88 (some 0))
  hdr : h[L.br]? = some (.cells ((List.range (L.M)).map fun i => .slice (some ⟨L.rb i, 0, none⟩) L.N L.N) 23 (some 1))
  row : ∀ i, i < L.M → h[L.rb i]? = some (.cells (cellsF L.N (s.t i)) 3 (some 1))
  bas : 0 < L.m → h[L.bb]? = some (.cells (cellsF L.m fun i => basZ (s.bas i)) 3 (some 1))
  map : h[L.bm]? = some (.map (l.map entZ) clock)
  frame : ∀ b x, L.F b = some x → h[b]? = some x

variable {h0 h : List O} {L : Lay} {s : Tab} {l : List (Int × Int × Nat)} {clock : Nat}
theorem get_ext {h h' : List O} {b : Nat} {o : O} (e : Ext h h') (hb : h[b]? = some o) : h'[b]? = some o := by
  obtain ⟨x, rfl⟩ := e
  rw [List.getElem?_append_left (List.getElem?_eq_some_iff.1 hb).1]; exact hb
theorem TabAt.ext (T : TabAt h0 L s l clock h) {h' : List O} (e : Ext h h') : TabAt h0 L s l clock h' :=
  ⟨T.keep.ext e, get_ext e T.str, get_ext e T.hdr, fun i hi => get_ext e (T.row i hi), fun hm => get_ext e (T.bas hm), get_ext e T.map, fun b x hb => get_ext e (T.frame b x hb)⟩
theorem TabAt.rdRows (T : TabAt h0 L s l clock h) : rd h L.p 3 = some (.slice (some ⟨L.br, 0, none⟩) (L.M) (L.M)) := by simp [rd, T.str]
theorem TabAt.rdDen (T : TabAt h0 L s l clock h) : rd h L.p 4 = some (.int .i64 s.den) := by simp [rd, T.str]
theorem TabAt.rdBas (T : TabAt h0 L s l clock h) : rd h L.p 5 = some L.vBas := by simp [rd, T.str]
theorem TabAt.rdMap (T : TabAt h0 L s l clock h) : rd h L.p 6 = some (.map (some L.bm)) := by simp [rd, T.str]
theorem TabAt.rdLp (T : TabAt h0 L s l clock h) : rdN h L.p 0 3 = some [L.vA, L.vB, L.vC] := by simp [rdN, T.str]
theorem TabAt.rdHdr (T : TabAt h0 L s l clock h) {i : Nat} (hi : i < L.M) : rd h L.br i = some (.slice (some ⟨L.rb i, 0, none⟩) L.N L.N) := by simp [rd, T.hdr, hi]
theorem TabAt.rdRow (T : TabAt h0 L s l clock h) {i j : Nat} (hi : i < L.M) (hj : j < L.N) : rd h (L.rb i) j = some (.int .i64 (s.t i j)) := by simp [rd, T.row i hi, cellsF_get hj]
theorem Lay.Ok.basSlice (o : L.Ok h0) : ∃ a, L.vBas = .slice a L.m L.m ∧ (0 < L.m → a = some ⟨L.bb, 0, none⟩) := by
  rcases o.bb with ⟨h1, h2⟩ | ⟨h1, h2, _⟩
  · exact ⟨none, by rw [h2, h1], fun h => by omega⟩
  · exact ⟨_, h2, fun _ => rfl⟩

/-- A row is changed. -/
def setRowT (s : Tab) (i : Nat) (f : Nat → Int) : Tab := { s with t := fun a => if a = i then f else s.t a }
theorem TabAt.setRow (T : TabAt h0 L s l clock h) (o : L.Ok h0) {i : Nat} (hi : i < L.M) (f : Nat → Int) : TabAt h0 L (setRowT s i f) l clock (h.set (L.rb i) (.cells (cellsF L.N f) 3 (some 1))) := by
  obtain ⟨o1, o2, o3, o4⟩ := o.rb i hi
  have hlt := (List.getElem?_eq_some_iff.1 (T.row i hi)).1
  refine ⟨T.keep.set o1 _, ?_, ?_, fun a ha => ?_, fun hm => ?_, ?_, fun b x hb => ?_⟩
  · rw [List.getElem?_set_ne o2]; exact T.str
  · rw [List.getElem?_set_ne o3]; exact T.hdr
  · by_cases e : a = i
    · subst e; simp [setRowT, hlt]
    · rw [List.getElem?_set_ne (fun e2 => e (o.inj _ _ ha hi e2.symm))]
      simp only [setRowT, if_neg e]; exact T.row a ha
  · rcases o.bb with ⟨h1, _⟩ | ⟨h1, h2, _, _, _, h3⟩
    · omega
    · rw [List.getElem?_set_ne (h3 i hi)]; exact T.bas hm
  · rw [List.getElem?_set_ne o4]; exact T.map
  · rw [List.getElem?_set_ne (fun e => (o.frame b x hb).2.2.2.2 i hi e.symm)]; exact T.frame b x hb
theorem TabAt.setDen (T : TabAt h0 L s l clock h) (o : L.Ok h0) (d : Int) : TabAt h0 L { s with den := d } l clock (h.set L.p (.cells [L.vA, L.vB, L.vC, .slice (some ⟨L.br, 0, none⟩) (L.M) (L.M), .int .i64 d, L.vBas, .map (some L.bm)] 88 (some 0))) := by
  have hlt := (List.getElem?_eq_some_iff.1 T.str).1
  refine ⟨T.keep.set o.p _, by simp [hlt], ?_, fun a ha => ?_, fun hm => ?_, ?_, fun b x hb => ?_⟩
  · rw [List.getElem?_set_ne o.pbr]; exact T.hdr
  · rw [List.getElem?_set_ne (fun e => (o.rb a ha).2.1 e.symm)]; exact T.row a ha
  · rcases o.bb with ⟨h1, _⟩ | ⟨h1, h2, h3, _⟩
    · omega
    · rw [List.getElem?_set_ne (fun e => h3 e.symm)]; exact T.bas hm
  · rw [List.getElem?_set_ne o.pbm]; exact T.map
  · rw [List.getElem?_set_ne (fun e => (o.frame b x hb).1 e.symm)]; exact T.frame b x hb
end Go.Proofs.Ytdbkhecnkhjhpaa
/- What reads a tableau. -/
namespace Go.Proofs.Ytdbkhecnkhjhpaa
open Go Go.Ai
set_option linter.unusedSimpArgs false
set_option linter.unusedVariables false
attribute [local instance] Classical.propDecidable
variable {E : Env} (hE : LpE E) {h0 h : List O} {L : Lay} {s : Tab} {l : List (Int × Int × Nat)} {clock : Nat}
theorem sliceV_lohi {h : List O} {b o len cap lo hi : Nat} (ht : tagOk h 1 b = true) (h1 : lo ≤ hi) (h2 : hi ≤ cap) (h3 : lo < cap) :
    sliceV h 1 (.slice (some ⟨b, o, none⟩) len cap) (some (.int .i64 lo)) (some (.int .i64 hi)) none = some (.slice (some ⟨b, o + lo, none⟩) (hi - lo) (cap - lo)) := by
  simp only [sliceV, mxB, hiB, loB, bound, Option.bind_some]
  rw [if_pos ⟨by omega, by omega⟩]
  simp only [Option.bind_some, Int.toNat_natCast]
  rw [if_pos ⟨by omega, by omega⟩]
  simp only [Option.bind_some, Int.toNat_natCast, sliceA]
  rw [if_pos ht, if_neg (by omega), Nat.mul_one]
theorem sliceV_hi {h : List O} {b o len cap hi : Nat} (ht : tagOk h 1 b = true) (h2 : hi ≤ cap) (h3 : 0 < cap) :
    sliceV h 1 (.slice (some ⟨b, o, none⟩) len cap) none (some (.int .i64 hi)) none = some (.slice (some ⟨b, o, none⟩) hi cap) := by
  simp only [sliceV, mxB, hiB, loB, bound, Option.bind_some]
  rw [if_pos ⟨by omega, by omega⟩]
  simp only [Option.bind_some, Int.toNat_natCast, sliceA]
  rw [if_pos ht, if_neg (by omega)]
  simp
theorem sliceV_himx {h : List O} {b o len cap hi mx : Nat} (ht : tagOk h 1 b = true) (h1 : hi ≤ mx) (h2 : mx ≤ cap) (h3 : 0 < mx) :
    sliceV h 1 (.slice (some ⟨b, o, none⟩) len cap) none (some (.int .i64 hi)) (some (.int .i64 mx)) = some (.slice (some ⟨b, o, none⟩) hi mx) := by
  simp only [sliceV, mxB, hiB, loB, bound, Option.bind_some]
  rw [if_pos ⟨by omega, by omega⟩]
  simp only [Option.bind_some, Int.toNat_natCast]
  rw [if_pos ⟨by omega, by omega⟩]
  simp only [Option.bind_some, Int.toNat_natCast, sliceA]
  rw [if_pos ht, if_neg (by omega)]
  simp
theorem TabAt.tag (T : TabAt h0 L s l clock h) {i : Nat} (hi : i < L.M) : tagOk h 1 (L.rb i) = true := by simp [tagOk, T.row i hi]
include hE

theorem cols62 {v1 v2 : Value} {a : Option Addr} {n c : Nat} :
    DR E 62 [.agg #[v1, v2, .slice a n c]] ⟨h, h.length⟩ (.ret (.int .i64 n)) ⟨h, h.length⟩ := by
  refine hE.fn (body := rb62) rfl (by decide) ?_
  unfold rb62
  simp
theorem right70 (T : TabAt h0 L s l clock h) (o : L.Ok h0) {a : Option Addr} {c : Nat} (hC : L.vC = .slice a L.n c) {i : Nat} (hi : i < L.M) :
    DR E 70 [.pointer (some ⟨L.p, 0, none⟩), .int .i64 i] ⟨h, h.length⟩ (.ret (.int .i64 (s.t i (L.n + L.m)))) ⟨h, h.length⟩ := by
  refine hE.fn (body := rb70) rfl (by decide) ?_
  unfold rb70
  obtain ⟨aB, hB, hB2⟩ := o.basSlice
  have l62 : ∀ h, DR E 62 [.agg #[L.vA, L.vB, .slice a L.n c]] ⟨h, h.length⟩ (.ret (.int .i64 L.n)) ⟨h, h.length⟩ := fun h => cols62 hE
  have r1 := T.rdRows
  have r2 := T.rdLp
  have r3 := T.rdBas
  have r4 := T.rdHdr hi
  have r5 := T.rdRow (j := L.n + L.m) hi (by simp [Lay.N])
  have sm := o.small
  have hN : (L.n : Int) + L.m < L.N := by rw [L.N_eq]; omega
  have hN0 : (0 : Int) ≤ (L.n : Int) + L.m := by omega
  have hN2 : ((L.n : Int) + L.m).toNat = L.n + L.m := by omega
  rw [hB] at r3
  rw [hC] at r2
  simp [r1, r2, r3, r4, r5, DC_of (l62 _), hi, hN, hN0, hN2, w64_id (show -9223372036854775808 ≤ ((L.n : Int) + L.m) by omega) (by omega)]
theorem costs61 (T : TabAt h0 L s l clock h) (o : L.Ok h0) :
    DR E 61 [.pointer (some ⟨L.p, 0, none⟩)] ⟨h, h.length⟩ (.ret (.slice (some ⟨L.rb L.m, 0, none⟩) L.N L.N)) ⟨h, h.length⟩ := by
  refine hE.fn (body := rb61) rfl (by decide) ?_
  unfold rb61
  obtain ⟨aB, hB, hB2⟩ := o.basSlice
  have r1 := T.rdRows
  have r3 := T.rdBas
  have hm : L.m < L.M := by rw [L.M_eq]; omega
  have r4 := T.rdHdr hm
  rw [hB] at r3
  simp [r1, r3, r4, hm, back, Out.scalar, scalar, flat1, flat]
theorem part75 (T : TabAt h0 L s l clock h) (o : L.Ok h0) {a : Option Addr} {c : Nat} (hC : L.vC = .slice a L.n c) {i : Nat} (hi : i < L.m) :
    DR E 75 [.pointer (some ⟨L.p, 0, none⟩), .int .i64 i] ⟨h, h.length⟩ (.ret (.slice (some ⟨L.rb i, L.n, none⟩) L.m (L.m + 1))) ⟨h, h.length⟩ := by
  refine hE.fn (body := rb75) rfl (by decide) ?_
  unfold rb75
  obtain ⟨aB, hB, hB2⟩ := o.basSlice
  have l62 : ∀ h, DR E 62 [.agg #[L.vA, L.vB, .slice a L.n c]] ⟨h, h.length⟩ (.ret (.int .i64 L.n)) ⟨h, h.length⟩ := fun h => cols62 hE
  have hm : i < L.M := by rw [L.M_eq]; omega
  have r1 := T.rdRows
  have r2 := T.rdLp
  have r3 := T.rdBas
  have r4 := T.rdHdr hm
  rw [hB] at r3
  rw [hC] at r2
  have sm := o.small
  have e := sliceV_lohi (h := h) (b := L.rb i) (o := 0) (len := L.N) (cap := L.N) (lo := L.n) (hi := L.n + L.m) (T.tag hm) (by omega) (by rw [L.N_eq]; omega) (by rw [L.N_eq]; omega)
  rw [show L.n + L.m - L.n = L.m by omega, show L.N - L.n = L.m + 1 by rw [L.N_eq]; omega, Nat.zero_add, Int.natCast_add] at e
  simp [r1, r2, r3, r4, hm, DC_of (l62 _), w64_id (show -9223372036854775808 ≤ ((L.n : Int) + L.m) by omega) (by omega), e, back, Out.scalar, scalar, flat1, flat]
end Go.Proofs.Ytdbkhecnkhjhpaa
/- A row behind a pivot. -/
namespace Go.Proofs.Ytdbkhecnkhjhpaa
open Go Go.Ai
set_option linter.unusedSimpArgs false
set_option linter.unusedVariables false
attribute [local instance] Classical.propDecidable
variable {E : Env} (hE : LpE E) {h0 h : List O} {L : Lay} {s : Tab} {l : List (Int × Int × Nat)} {clock : Nat}

theorem cellsF_setL {N j : Nat} {f : Nat → Int} {x : Int} (hj : j < N) : setL (cellsF N f) j [.int .i64 x] = cellsF N fun k => if k = j then x else f k := by
  simp only [setL_cons, setL_nil]; exact cellsF_set hj
theorem rd_set_cells {h : List O} {b N j : Nat} {f : Nat → Int} {el : TypeId} {own : Option Nat} (hb : b < h.length) (hj : j < N) : rd (h.set b (.cells (cellsF N f) el own)) b j = some (.int .i64 (f j)) := by
  rw [rd_set_same hb, cellsF_get hj]
theorem rd_set_other {h : List O} {b b' j : Nat} {o : O} (hn : b ≠ b') : rd (h.set b o) b' j = rd h b' j := by
  simp only [rd]; rw [List.getElem?_set_ne hn]

theorem joined_len {H H' : List O} {f n : Nat} (hn : H.length ≤ n) : joined ⟨H, f⟩ ⟨H', n⟩ = ⟨H', f⟩ := by
  simp only [joined]; rw [if_neg (by omega)]
include hE
theorem combined74 {bi br N ci cr : Nat} {f g q : Nat → Int} {own : Option Nat} {p e den : Int} (hN : 0 < N ∧ N < 1000000) (hi : h[bi]? = some (.cells (cellsF N f) 3 (some 1))) (hr : h[br]? = some (.cells (cellsF N g) 3 own)) (hn : bi ≠ br)
    (hp : -1073741824 ≤ p ∧ p ≤ 1073741824) (he : -1073741824 ≤ e ∧ e ≤ 1073741824) (hd : 1 ≤ den ∧ den ≤ 1073741824) (hf : ∀ j, j < N → -1073741824 ≤ f j ∧ f j ≤ 1073741824) (hg : ∀ j, j < N → -1073741824 ≤ g j ∧ g j ≤ 1073741824)
    (hq : ∀ j, j < N → den * q j = p * f j - e * g j) (hqb : ∀ j, j < N → I64 (q j)) :
    DR E 74 [.slice (some ⟨bi, 0, none⟩) N ci, .slice (some ⟨br, 0, none⟩) N cr, .int .i64 p, .int .i64 e, .int .i64 den] ⟨h, h.length⟩ (.ret (.tuple #[])) ⟨h.set bi (.cells (cellsF N q) 3 (some 1)), bi⟩ := by
  refine hE.fn (body := rb74) rfl (by decide) ?_
  unfold rb74
  have hbi : bi < h.length := (List.getElem?_eq_some_iff.1 hi).1
  simp
  refine DW_loop (fun k fr st => ∃ i : Nat, i + k = N ∧ st = ⟨h.set bi (.cells (cellsF N fun j => if j < i then q j else f j) 3 (some 1)), if i = 0 then h.length else bi⟩ ∧ get fr 0 = .slice (some ⟨bi, 0, none⟩) N ci ∧ get fr 1 = .slice (some ⟨br, 0, none⟩) N cr ∧ get fr 2 = .int .i64 p ∧ get fr 3 = .int .i64 e ∧ get fr 4 = .int .i64 den ∧ get fr 13 = .int .i64 N ∧ get fr 14 = .int .i64 i) ?_ (k := N) ?_
  · rintro k fr st ⟨i, hik, rfl, g0, g1, g2, g3, g4, g13, g14⟩
    by_cases hlt : i < N
    · have r1 := rd_set_cells (h := h) (f := fun j => if j < i then q j else f j) (el := 3) (own := some 1) hbi hlt
      simp only [Nat.lt_irrefl, if_false] at r1
      have r2 : rd (h.set bi (.cells (cellsF N fun j => if j < i then q j else f j) 3 (some 1))) br i = some (.int .i64 (g i)) := by
        rw [rd_set_other hn]; simp [rd, hr, cellsF_get hlt]
      have w := wrN_set_same hbi (cellsF N fun j => if j < i then q j else f j) 3 1 i [.int .i64 (q i)] (by simp; omega) rfl
      rw [cellsF_setL hlt] at w
      have ew : cellsF N (fun k => if k = i then q i else if k < i then q k else f k) = cellsF N fun j => if j < i + 1 then q j else f j := by
        refine cellsF_congr fun j hj => ?_
        by_cases e1 : j = i
        · subst e1; rw [if_pos rfl, if_pos (by omega)]
        · rw [if_neg e1]
          by_cases e2 : j < i
          · rw [if_pos e2, if_pos (by omega)]
          · rw [if_neg e2, if_neg (by omega)]
      rw [ew] at w
      have f1 := hf i hlt
      have g1' := hg i hlt
      have m1 := mul_bound hp f1
      have m2 := mul_bound he g1'
      have x1 : IntKind.i64.wrap (p * f i) = p * f i := w64_id (by omega) (by omega)
      have x2 : IntKind.i64.wrap (e * g i) = e * g i := w64_id (by omega) (by omega)
      have x3 : IntKind.i64.wrap (p * f i - e * g i) = den * q i := by rw [hq i hlt, w64_id (by omega) (by omega)]
      have x4 : (den * q i).tmod den = 0 := Int.mul_tmod_right _ _
      have x5 : (den * q i).tdiv den = q i := Int.mul_tdiv_cancel_left _ (by omega)
      have x6 : IntKind.i64.wrap (q i) = q i := w64_id (hqb i hlt).1 (hqb i hlt).2
      have a1 := abs46 hE (h := h.set bi (.cells (cellsF N fun j => if j < i then q j else f j) 3 (some 1))) (x := f i) (by omega)
      have a2 := abs46 hE (h := h.set bi (.cells (cellsF N fun j => if j < i then q j else f j) 3 (some 1))) (x := g i) (by omega)
      simp only [List.length_set] at a1 a2
      have d0 : den ≠ 0 := by omega
      have n1 : ¬ (1073741824 : Int) < (f i).natAbs := by omega
      have n2 : ¬ (1073741824 : Int) < (g i).natAbs := by omega
      have je : ∀ F, joined ⟨h.set bi (.cells (cellsF N fun j => if j < i then q j else f j) 3 (some 1)), F⟩ ⟨h.set bi (.cells (cellsF N fun j => if j < i then q j else f j) 3 (some 1)), h.length⟩ = ⟨h.set bi (.cells (cellsF N fun j => if j < i then q j else f j) 3 (some 1)), F⟩ := fun F => joined_len (by simp)
      simp [je, g0, g1, g2, g3, g4, g13, g14, hlt, r1, r2, x1, x2, x3, binV_rem d0, x4, DC_of a1, DC_of a2, n1, n2, binV_quo d0, x5, x6, w]
      exact ⟨k - 1, by omega, i + 1, by omega, ⟨rfl, by split <;> simp <;> omega⟩, by rw [w64_id] <;> omega⟩
    · have : i = N := by omega
      subst this
      have ec : cellsF i (fun j => if j < i then q j else f j) = cellsF i q := cellsF_congr fun j hj => if_pos hj
      rw [ec]
      simp [g0, g13, g14]
      rw [if_neg (by omega)]
      unfold back
      rw [if_neg (by simp; omega)]
      exact ⟨rfl, rfl⟩
  · have ec : cellsF N (fun j => if j < 0 then q j else f j) = cellsF N f := cellsF_congr fun j hj => if_neg (by omega)
    exact ⟨0, by simp, by rw [ec, set_same hi]; rfl, by simp⟩
end Go.Proofs.Ytdbkhecnkhjhpaa
/- A pivot. -/
namespace Go.Proofs.Ytdbkhecnkhjhpaa
open Go Go.Ai
set_option linter.unusedSimpArgs false
set_option linter.unusedVariables false
attribute [local instance] Classical.propDecidable
variable {E : Env} (hE : LpE E) {h0 h : List O} {L : Lay} {s : Tab} {l : List (Int × Int × Nat)} {clock : Nat} {T0 : Nat → Nat → Int}

def pvA : R := match rb69 with | .seq a _ => a | _ => .skip
def pvB : R := match rb69 with | .seq _ (.seq a _) => a | _ => .skip
def pvC : R := match rb69 with | .seq _ (.seq _ (.seq a _)) => a | _ => .skip
def pvD : R := match rb69 with | .seq _ (.seq _ (.seq _ (.seq a _))) => a | _ => .skip
def pvF : R := match rb69 with | .seq _ (.seq _ (.seq _ (.seq _ a))) => a | _ => .skip
theorem rb69_eq : rb69 = .seq pvA (.seq pvB (.seq pvC (.seq pvD pvF))) := rfl

/-- What the bounds of a tableau are. -/
def Small (L : Lay) (s : Tab) : Prop := (1 ≤ s.den ∧ s.den ≤ 268435456) ∧ ∀ i j, i < L.M → j < L.N → -268435456 ≤ s.t i j ∧ s.t i j ≤ 268435456
theorem TabAt.congr (T : TabAt h0 L s l clock h) {s' : Tab} (h1 : s'.den = s.den) (h2 : ∀ i, i < L.m → s'.bas i = s.bas i) (h3 : ∀ i j, i < L.M → j < L.N → s'.t i j = s.t i j) : TabAt h0 L s' l clock h :=
  ⟨T.keep, by rw [h1]; exact T.str, T.hdr, fun i hi => by rw [cellsF_congr fun j hj => h3 i j hi hj]; exact T.row i hi, fun hm => by rw [cellsF_congr fun i hi => by rw [h2 i hi]]; exact T.bas hm, T.map, T.frame⟩

theorem joined_eq {H H' : List O} {f b : Nat} : joined ⟨H, f⟩ ⟨H', b⟩ = ⟨H', if b < H.length then min f b else f⟩ := rfl
/-- The frame of a pivot. -/
def PvFr (L : Lay) (r c : Nat) (p : Int) (fr : Fr) : Prop := get fr 0 = .pointer (some ⟨L.p, 0, none⟩) ∧ get fr 1 = .int .i64 r ∧ get fr 2 = .int .i64 c ∧ get fr 6 = .int .i64 p
include hE
theorem pvB_ok (T : TabAt h0 L s l clock h) (o : L.Ok h0) (hI : TInv L.m L.n T0 s) (hs : Small L s) {r c : Nat} (hr : r < L.m) (hc : c < L.n) (hraw : ∀ i j, i < L.M → j < L.N → I64 (rawT s r c i j)) {fr : Fr} (hf : PvFr L r c (s.t r c) fr) {f : Nat} (hfl : h0.length ≤ f) {Q : Post}
    (hQ : ∀ fr' h' f', PvFr L r c (s.t r c) fr' → TabAt h0 L { s with t := rawT s r c } l clock h' → h'.length = h.length → h0.length ≤ f' → Q .normal fr' ⟨h', f'⟩) : DW E pvB fr ⟨h, f⟩ Q := by
  obtain ⟨g0, g1, g2, g6⟩ := hf
  have sm := o.small
  have hrM : r < L.M := by rw [L.M_eq]; omega
  have hcN : c < L.N := by rw [L.N_eq]; omega
  have hMb : L.M ≤ 61 := by rw [L.M_eq]; omega
  show DW E (match rb69 with | .seq _ (.seq a _) => a | _ => .skip) fr ⟨h, f⟩ Q
  unfold rb69
  simp [g0, T.rdRows]
  refine DW_loop (fun k fr st => ∃ i : Nat, ∃ h' f', i + k = L.M ∧ st = ⟨h', f'⟩ ∧ PvFr L r c (s.t r c) fr ∧ get fr 26 = .slice (some ⟨L.br, 0, none⟩) L.M L.M ∧ get fr 27 = .int .i64 L.M ∧ get fr 28 = .int .i64 i ∧ h'.length = h.length ∧ h0.length ≤ f' ∧ TabAt h0 L { s with t := fun a => if a < i then rawT s r c a else s.t a } l clock h') ?_ (k := L.M) ?_
  · rintro k fr st ⟨i, h', f', hik, rfl, ⟨g0, g1, g2, g6⟩, g26, g27, g28, hlen, hf', T'⟩
    by_cases hlt : i < L.M
    · have r1 := T'.rdHdr hlt
      have r2 := T'.rdHdr hrM
      have r3 := T'.rdRows
      have r4 := T'.rdDen
      simp only at r4
      have r5 := T'.rdRow (j := c) hlt hcN
      simp only [Nat.lt_irrefl, if_false] at r5
      by_cases hir : i = r
      · subst hir
        simp [g0, g1, g2, g6, g26, g27, g28, hlt, r1]
        refine ⟨k - 1, by omega, i + 1, by omega, h', f', ⟨rfl, rfl⟩, by simp [PvFr, g0, g1, g2, g6], by rw [w64_id] <;> omega, hlen, hf', T'.congr rfl (fun _ _ => rfl) fun a j ha hj => ?_⟩
        simp only
        by_cases e1 : a = i
        · subst e1; rw [if_pos (by omega), if_neg (by omega)]; simp [rawT]
        · by_cases e2 : a < i
          · rw [if_pos e2, if_pos (by omega)]
          · rw [if_neg e2, if_neg (by omega)]
      · have w1 := T'.row i hlt
        have w2 := T'.row r hrM
        simp only [Nat.lt_irrefl, if_false] at w1
        have e2 : (if r < i then rawT s r c r else s.t r) = s.t r := by
          split
          · funext j; simp [rawT]
          · rfl
        simp only [e2] at w2
        have lc := combined74 hE (bi := L.rb i) (br := L.rb r) (N := L.N) (ci := L.N) (cr := L.N) (p := s.t r c) (e := s.t i c) (den := s.den) (q := rawT s r c i) (by rw [L.N_eq]; omega) w1 w2 (fun e => hir (o.inj _ _ hlt hrM e))
          (by have := hs.2 r c hrM hcN; omega) (by have := hs.2 i c hlt hcN; omega) (by have := hs.1; omega) (fun j hj => by have := hs.2 i j hlt hj; omega) (fun j hj => by have := hs.2 r j hrM hj; omega)
          (fun j hj => hI.raw (by omega) (by omega) (by rw [L.M_eq] at hlt; omega) hir (by rw [L.N_eq] at hj; omega)) (fun j hj => hraw i j hlt hj)
        simp [g0, g1, g2, g6, g26, g27, g28, hlt, hir, hrM, hcN, r1, r2, r3, r4, r5, DC_of lc]
        have ob := o.rb i hlt
        refine ⟨⟨fun h => absurd h (by decide), fun h => absurd h (by decide), fun h => absurd h (by decide), fun h => absurd h (by decide)⟩, k - 1, by omega, i + 1, by omega, _, _, joined_eq, by simp [PvFr, g0, g1, g2, g6], by rw [w64_id] <;> omega, by simpa using hlen, by split <;> omega, (T'.setRow o hlt (rawT s r c i)).congr rfl (fun _ _ => rfl) fun a j ha hj => ?_⟩
        simp only [setRowT]
        by_cases e1 : a = i
        · subst e1; rw [if_pos rfl, if_pos (by omega)]
        · rw [if_neg e1]
          by_cases e2 : a < i
          · rw [if_pos e2, if_pos (by omega)]
          · rw [if_neg e2, if_neg (by omega)]
    · have : i = L.M := by omega
      subst this
      simp [g0, g1, g2, g6, g26, g27, g28, hlt]
      exact hQ _ _ _ (by simp [PvFr, g0, g1, g2, g6]) (T'.congr rfl (fun _ _ => rfl) fun a j ha hj => by simp only; rw [if_pos ha]) hlen hf'
  · exact ⟨0, h, f, by simp, rfl, by simp [PvFr, g0, g1, g2, g6], by simp, by simp, by simp, rfl, hfl, T.congr rfl (fun _ _ => rfl) fun a j ha hj => by simp⟩
end Go.Proofs.Ytdbkhecnkhjhpaa
/- A pivot: the denominator, and its sign. -/
namespace Go.Proofs.Ytdbkhecnkhjhpaa
open Go Go.Ai
set_option linter.unusedSimpArgs false
set_option linter.unusedVariables false
attribute [local instance] Classical.propDecidable
variable {E : Env} {h0 h : List O} {L : Lay} {s : Tab} {l : List (Int × Int × Nat)} {clock : Nat} {T0 : Nat → Nat → Int}

theorem TabAt.wrDen (T : TabAt h0 L s l clock h) (d : Int) : wrN h L.p 4 [.int .i64 d] = some (h.set L.p (.cells [L.vA, L.vB, L.vC, .slice (some ⟨L.br, 0, none⟩) L.M L.M, .int .i64 d, L.vBas, .map (some L.bm)] 88 (some 0))) := by
  simp [wrN, T.str, setL, one1]
theorem TabAt.wrRow (T : TabAt h0 L s l clock h) {i j : Nat} (hi : i < L.M) (hj : j < L.N) (x : Int) : wrN h (L.rb i) j [.int .i64 x] = some (h.set (L.rb i) (.cells (cellsF L.N fun k => if k = j then x else s.t i k) 3 (some 1))) := by
  have := cellsF_setL (f := s.t i) (x := x) hj
  simp only [wrN, T.row i hi]
  rw [if_pos ⟨by simp; omega, by simp [one1]⟩, this]
theorem pvC_ok (T : TabAt h0 L s l clock h) (o : L.Ok h0) {r c : Nat} {p : Int} {fr : Fr} (hf : PvFr L r c p fr) {f : Nat} (hfl : h0.length ≤ f) {Q : Post}
    (hQ : ∀ fr' h' f', PvFr L r c p fr' → TabAt h0 L { s with den := p } l clock h' → h'.length = h.length → h0.length ≤ f' → f' < h.length → Q .normal fr' ⟨h', f'⟩) : DW E pvC fr ⟨h, f⟩ Q := by
  obtain ⟨g0, g1, g2, g6⟩ := hf
  show DW E (match rb69 with | .seq _ (.seq _ (.seq a _)) => a | _ => .skip) fr ⟨h, f⟩ Q
  unfold rb69
  have hlt := (List.getElem?_eq_some_iff.1 T.str).1
  have op := o.p
  simp [g0, g6, T.wrDen]
  exact hQ _ _ _ (by simp [PvFr, g0, g1, g2, g6]) (T.setDen o p) (by simp) (by omega) (by omega)
theorem pvD_ok (T : TabAt h0 L s l clock h) (o : L.Ok h0) (hp : s.den ≠ 0) (hI : ∀ i j, i < L.M → j < L.N → I64 (s.t i j) ∧ I64 (- s.t i j)) (hpI : I64 (- s.den)) {r c : Nat} {fr : Fr} (hf : PvFr L r c s.den fr) {f : Nat} (hfl : h0.length ≤ f) (hfh : f < h.length) {Q : Post}
    (hQ : ∀ fr' h' f', PvFr L r c s.den fr' → TabAt h0 L { s with t := fun i j => sgnP s.den * s.t i j, den := sgnP s.den * s.den } l clock h' → h'.length = h.length → h0.length ≤ f' → f' < h.length → Q .normal fr' ⟨h', f'⟩) : DW E pvD fr ⟨h, f⟩ Q := by
  obtain ⟨g0, g1, g2, g6⟩ := hf
  have sm := o.small
  have hMb : L.M ≤ 61 := by rw [L.M_eq]; omega
  have hNb : L.N ≤ 121 := by rw [L.N_eq]; omega
  show DW E (match rb69 with | .seq _ (.seq _ (.seq _ (.seq a _))) => a | _ => .skip) fr ⟨h, f⟩ Q
  unfold rb69
  by_cases hneg : s.den < 0
  · have hlt := (List.getElem?_eq_some_iff.1 T.str).1
    have op := o.p
    have T2 := T.setDen o (- s.den)
    have e1 : IntKind.i64.wrap (- s.den) = - s.den := w64_id hpI.1 hpI.2
    have rr := T2.rdRows
    simp [g0, g6, hneg, e1, T.wrDen, rr]
    generalize hH : h.set L.p (.cells [L.vA, L.vB, L.vC, .slice (some ⟨L.br, 0, none⟩) L.M L.M, .int .i64 (- s.den), L.vBas, .map (some L.bm)] 88 (some 0)) = H at T2 rr ⊢
    have hHl : H.length = h.length := by rw [← hH]; simp
    refine DW_loop (fun k fr st => ∃ i : Nat, ∃ h' f', i + k = L.M ∧ st = ⟨h', f'⟩ ∧ PvFr L r c s.den fr ∧ get fr 69 = .slice (some ⟨L.br, 0, none⟩) L.M L.M ∧ get fr 70 = .int .i64 L.M ∧ get fr 71 = .int .i64 i ∧ h'.length = h.length ∧ h0.length ≤ f' ∧ f' < h.length ∧ TabAt h0 L { s with den := - s.den, t := fun a j => if a < i then - s.t a j else s.t a j } l clock h') ?_ (k := L.M) ?_
    · rintro k fr st ⟨i, h', f', hik, rfl, ⟨g0, g1, g2, g6⟩, g69, g70, g71, hlen, hf', hfh', T'⟩
      by_cases hlt : i < L.M
      · have r1 := T'.rdHdr hlt
        simp [g0, g1, g2, g6, g69, g70, g71, hlt, r1]
        refine DW_loop (fun k' fr st => ∃ j : Nat, ∃ h' f', j + k' = L.N ∧ st = ⟨h', f'⟩ ∧ PvFr L r c s.den fr ∧ get fr 69 = .slice (some ⟨L.br, 0, none⟩) L.M L.M ∧ get fr 70 = .int .i64 L.M ∧ get fr 71 = .int .i64 i ∧ get fr 10 = .slice (some ⟨L.rb i, 0, none⟩) L.N L.N ∧ get fr 76 = .int .i64 L.N ∧ get fr 77 = .int .i64 j ∧ h'.length = h.length ∧ h0.length ≤ f' ∧ f' < h.length ∧ TabAt h0 L { s with den := - s.den, t := fun a x => if a < i ∨ (a = i ∧ x < j) then - s.t a x else s.t a x } l clock h') ?_ (k := L.N) ?_
        · rintro k' fr st ⟨j, h', f', hjk, rfl, ⟨g0, g1, g2, g6⟩, g69, g70, g71, g10, g76, g77, hlen, hf', hfh', T'⟩
          by_cases hjl : j < L.N
          · have r2 := T'.rdRow hlt hjl
            simp only [Nat.lt_irrefl, and_false, or_self, if_false] at r2
            have e2 : IntKind.i64.wrap (- s.t i j) = - s.t i j := w64_id (hI i j hlt hjl).2.1 (hI i j hlt hjl).2.2
            have w := T'.wrRow hlt hjl (- s.t i j)
            have ob := o.rb i hlt
            have hrl := (List.getElem?_eq_some_iff.1 (T'.row i hlt)).1
            simp [g0, g1, g2, g6, g69, g70, g71, g10, g76, g77, hlt, hjl, r2, e2, w]
            refine ⟨k' - 1, by omega, j + 1, by omega, _, _, ⟨rfl, rfl⟩, by simp [PvFr, g0, g1, g2, g6], by rw [w64_id] <;> omega, by simpa using hlen, by omega, by omega, (T'.setRow o hlt _).congr rfl (fun _ _ => rfl) fun a x ha hx => ?_⟩
            simp only [setRowT]
            by_cases e1 : a = i
            · subst e1
              rw [if_pos rfl]
              by_cases e3 : x = j
              · subst e3; rw [if_pos (by omega), if_pos rfl]
              · rw [if_neg e3]
                by_cases e4 : x < j
                · rw [if_pos (by omega), if_pos (by omega)]
                · rw [if_neg (by omega), if_neg (by omega)]
            · rw [if_neg e1]
              by_cases e4 : a < i
              · rw [if_pos (by omega), if_pos (by omega)]
              · rw [if_neg (by omega), if_neg (by omega)]
          · have : j = L.N := by omega
            subst this
            simp [g0, g1, g2, g6, g69, g70, g71, g10, g76, g77, hlt]
            refine ⟨k - 1, by omega, i + 1, by omega, _, _, ⟨rfl, rfl⟩, by simp [PvFr, g0, g1, g2, g6], by rw [w64_id] <;> omega, hlen, hf', hfh', T'.congr rfl (fun _ _ => rfl) fun a x ha hx => ?_⟩
            simp only
            by_cases e4 : a < i + 1
            · rw [if_pos e4, if_pos (by omega)]
            · rw [if_neg e4, if_neg (by omega)]
        · exact ⟨0, h', f', by simp, rfl, by simp [PvFr, g0, g1, g2, g6], by simp [g69], by simp [g70], by simp [g71], by simp, by simp, by simp, hlen, hf', hfh', T'.congr rfl (fun _ _ => rfl) fun a x ha hx => by simp⟩
      · have : i = L.M := by omega
        subst this
        simp [g0, g1, g2, g6, g69, g70, g71, hlt]
        refine hQ _ _ _ (by simp [PvFr, g0, g1, g2, g6]) (T'.congr ?_ (fun _ _ => rfl) fun a x ha hx => ?_) hlen hf' hfh'
        · simp only [sgnP]; rw [if_pos hneg]; omega
        · simp only [sgnP]; rw [if_pos hneg, if_pos ha]; omega
    · exact ⟨0, H, _, by simp, rfl, by simp [PvFr, g0, g1, g2, g6], by simp, by simp, by simp, hHl, by omega, by omega, T2.congr rfl (fun _ _ => rfl) fun a x ha hx => by simp⟩
  · simp [g0, g6, hneg]
    refine hQ _ _ _ (by simp [PvFr, g0, g1, g2, g6]) (T.congr ?_ (fun _ _ => rfl) fun a x ha hx => ?_) rfl hfl hfh
    · simp only [sgnP]; rw [if_neg hneg]; omega
    · simp only [sgnP]; rw [if_neg hneg]; omega
end Go.Proofs.Ytdbkhecnkhjhpaa
/- A pivot: the basis and its map. -/
namespace Go.Proofs.Ytdbkhecnkhjhpaa
open Go Go.Ai
set_option linter.unusedSimpArgs false
set_option linter.unusedVariables false
attribute [local instance] Classical.propDecidable
variable {E : Env} {h0 h : List O} {L : Lay} {s : Tab} {l : List (Int × Int × Nat)} {clock : Nat} {T0 : Nat → Nat → Int}

abbrev Ent := Int × Int × Nat
theorem atZ_succ (k : Int) (l : List Ent) (i : Nat) : atZ k l (i + 1) = (atZ k l i).map fun x => (x.1 + 1, x.2) := by
  induction l generalizing i with
  | nil => rfl
  | cons x l ih =>
    simp only [atZ]
    by_cases h : x.1 = k
    · rw [if_pos h, if_pos h]; rfl
    · rw [if_neg h, if_neg h]; exact ih _
theorem atZ_none {k : Int} {l : List Ent} {i : Nat} : atZ k l i = none ↔ ∀ x ∈ l, x.1 ≠ k := by
  induction l generalizing i with
  | nil => simp [atZ]
  | cons x l ih =>
    simp only [atZ]
    by_cases h : x.1 = k
    · rw [if_pos h]; simp [h]
    · rw [if_neg h, ih]; simp [h]
theorem atZ_some {k v : Int} {l : List Ent} {i j : Nat} (h : atZ k l i = some (j, v)) : ∃ b, (k, v, b) ∈ l := by
  induction l generalizing i with
  | nil => cases h
  | cons x l ih =>
    simp only [atZ] at h
    by_cases e : x.1 = k
    · rw [if_pos e] at h
      cases h
      exact ⟨x.2.2, by subst e; simp⟩
    · rw [if_neg e] at h
      obtain ⟨b, hb⟩ := ih h
      exact ⟨b, List.mem_cons_of_mem _ hb⟩
theorem eraseZ_cons (k : Int) (x : Ent) (l : List Ent) : eraseZ k (x :: l) = if x.1 = k then l else x :: eraseZ k l := by
  simp only [eraseZ, atZ]
  by_cases h : x.1 = k
  · rw [if_pos h, if_pos h]; rfl
  · rw [if_neg h, if_neg h, atZ_succ]
    cases atZ k l 0 <;> rfl
theorem eraseZ_sub (k : Int) (l : List Ent) : (eraseZ k l).Sublist l := by
  induction l with
  | nil => exact List.Sublist.refl _
  | cons x l ih =>
    rw [eraseZ_cons]
    split
    · exact List.sublist_cons_self _ _
    · exact ih.cons_cons _
theorem mem_eraseZ {k : Int} {l : List Ent} (hp : l.Pairwise fun x y => x.1 ≠ y.1 ∧ x.2.2 ≠ y.2.2) {y : Ent} : y ∈ eraseZ k l ↔ y ∈ l ∧ y.1 ≠ k := by
  induction l with
  | nil => simp [eraseZ, atZ]
  | cons x l ih =>
    rw [List.pairwise_cons] at hp
    rw [eraseZ_cons]
    by_cases h : x.1 = k
    · rw [if_pos h]
      constructor
      · intro hy; exact ⟨List.mem_cons_of_mem _ hy, fun e => (hp.1 y hy).1 (by rw [h, e])⟩
      · rintro ⟨hy, hn⟩
        rcases List.mem_cons.1 hy with rfl | hy
        · exact absurd h hn
        · exact hy
    · rw [if_neg h, List.mem_cons, List.mem_cons, ih hp.2]
      constructor
      · rintro (rfl | ⟨h1, h2⟩)
        · exact ⟨.inl rfl, h⟩
        · exact ⟨.inr h1, h2⟩
      · rintro ⟨rfl | h1, h2⟩
        · exact .inl rfl
        · exact .inr ⟨h1, h2⟩
theorem MapOk.erase {m : Nat} {bas : Nat → Option Nat} (hm : MapOk m bas l clock) (hinj : ∀ i j c, bas i = some c → bas j = some c → i = j) {r c : Nat} (hr : bas r = some c) : MapOk m (fun i => if i = r then none else bas i) (eraseZ c l) clock where
  only x hx := by
    obtain ⟨hx, hne⟩ := (mem_eraseZ hm.keys).1 hx
    obtain ⟨c', r', h1, h2, h3, h4⟩ := hm.only x hx
    refine ⟨c', r', h1, h2, h3, ?_⟩
    rw [if_neg, h4]
    intro e; subst e
    rw [hr] at h4; cases h4; exact hne h1
  all r' c' h := by
    by_cases e : r' = r
    · rw [if_pos e] at h; cases h
    · rw [if_neg e] at h
      obtain ⟨b, hb⟩ := hm.all r' c' h
      refine ⟨b, (mem_eraseZ hm.keys).2 ⟨hb, fun e2 => ?_⟩⟩
      have : c' = c := by simpa using e2
      subst this
      exact e (hinj _ _ _ h hr)
  keys := hm.keys.sublist (eraseZ_sub _ _)
  born x hx := hm.born x ((mem_eraseZ hm.keys).1 hx).1
theorem MapOk.add {m : Nat} {bas : Nat → Option Nat} (hm : MapOk m bas l clock) {r c : Nat} (hr : r < m) (h0 : bas r = none) (hc : ∀ i, bas i ≠ some c) : MapOk m (fun i => if i = r then some c else bas i) (l ++ [((c : Int), (r : Int), clock)]) (clock + 1) where
  only x hx := by
    rcases List.mem_append.1 hx with hx | hx
    · obtain ⟨c', r', h1, h2, h3, h4⟩ := hm.only x hx
      refine ⟨c', r', h1, h2, h3, ?_⟩
      rw [if_neg, h4]
      intro e; subst e; rw [h0] at h4; cases h4
    · have := List.mem_singleton.1 hx
      subst this
      exact ⟨c, r, rfl, rfl, hr, if_pos rfl⟩
  all r' c' h := by
    by_cases e : r' = r
    · subst e
      rw [if_pos rfl] at h; cases h
      exact ⟨clock, by simp⟩
    · rw [if_neg e] at h
      obtain ⟨b, hb⟩ := hm.all r' c' h
      exact ⟨b, List.mem_append_left _ hb⟩
  keys := by
    rw [List.pairwise_append]
    refine ⟨hm.keys, List.pairwise_singleton _ _, fun x hx y hy => ?_⟩
    have := List.mem_singleton.1 hy
    subst this
    obtain ⟨c', r', h1, h2, h3, h4⟩ := hm.only x hx
    have := hm.born x hx
    refine ⟨fun e => ?_, by simp only; omega⟩
    rw [h1] at e
    have : c' = c := by simpa using e
    subst this
    exact hc _ h4
  born x hx := by
    rcases List.mem_append.1 hx with hx | hx
    · have := hm.born x hx; omega
    · have := List.mem_singleton.1 hx; subst this; simp
theorem MapOk.free {m : Nat} {bas : Nat → Option Nat} (hm : MapOk m bas l clock) {c : Nat} (hc : ∀ i, bas i ≠ some c) : atZ c l 0 = none := by
  rw [atZ_none]
  intro x hx e
  obtain ⟨c', r', h1, h2, h3, h4⟩ := hm.only x hx
  rw [h1] at e
  have : c' = c := by simpa using e
  subst this
  exact hc _ h4
theorem MapOk.found {m : Nat} {bas : Nat → Option Nat} (hm : MapOk m bas l clock) (hinj : ∀ i j c, bas i = some c → bas j = some c → i = j) {r c : Nat} (hr : bas r = some c) : ∃ j, atZ c l 0 = some (j, (r : Int)) := by
  cases h : atZ c l 0 with
  | none =>
    obtain ⟨b, hb⟩ := hm.all r c hr
    exact absurd rfl (atZ_none.1 h _ hb)
  | some x =>
    obtain ⟨j, v⟩ := x
    obtain ⟨b, hb⟩ := atZ_some h
    obtain ⟨c', r', h1, h2, h3, h4⟩ := hm.only _ hb
    have : c' = c := by simpa using h1.symm
    subst this
    have := hinj _ _ _ hr h4
    subst this
    exact ⟨j, by rw [← h2]⟩

theorem TabAt.setMap (T : TabAt h0 L s l clock h) (o : L.Ok h0) (l' : List Ent) (clock' : Nat) : TabAt h0 L s l' clock' (h.set L.bm (.map (l'.map entZ) clock')) := by
  have hlt := (List.getElem?_eq_some_iff.1 T.map).1
  refine ⟨T.keep.set o.bm _, ?_, ?_, fun a ha => ?_, fun hm => ?_, by simp [hlt], fun b x hb => ?_⟩
  · rw [List.getElem?_set_ne (fun e => o.pbm e.symm)]; exact T.str
  · rw [List.getElem?_set_ne (fun e => o.bbm e.symm)]; exact T.hdr
  · rw [List.getElem?_set_ne (fun e => (o.rb a ha).2.2.2 e.symm)]; exact T.row a ha
  · rcases o.bb with ⟨h1, _⟩ | ⟨h1, h2, h3, h4, h5, _⟩
    · omega
    · rw [List.getElem?_set_ne (fun e => h5 e.symm)]; exact T.bas hm
  · rw [List.getElem?_set_ne (fun e => (o.frame b x hb).2.2.1 e.symm)]; exact T.frame b x hb
theorem TabAt.setBas (T : TabAt h0 L s l clock h) (o : L.Ok h0) {r : Nat} (hr : r < L.m) (c : Nat) : TabAt h0 L { s with bas := fun i => if i = r then some c else s.bas i } l clock (h.set L.bb (.cells (cellsF L.m fun i => basZ (if i = r then some c else s.bas i)) 3 (some 1))) := by
  have hlt := (List.getElem?_eq_some_iff.1 (T.bas (by omega))).1
  rcases o.bb with ⟨h1, _⟩ | ⟨h1, h2, h3, h4, h5, h6⟩
  · omega
  refine ⟨T.keep.set h1 _, ?_, ?_, fun a ha => ?_, fun hm => by simp [hlt], ?_, fun b x hb => ?_⟩
  · rw [List.getElem?_set_ne h3]; exact T.str
  · rw [List.getElem?_set_ne h4]; exact T.hdr
  · rw [List.getElem?_set_ne (fun e => h6 a ha e.symm)]; exact T.row a ha
  · rw [List.getElem?_set_ne h5]; exact T.map
  · rw [List.getElem?_set_ne (fun e => (o.frame b x hb).2.2.2.1 (by omega) e.symm)]; exact T.frame b x hb
theorem TabAt.wrBas (T : TabAt h0 L s l clock h) {r : Nat} (hr : r < L.m) (c : Nat) : wrN h L.bb r [.int .i64 c] = some (h.set L.bb (.cells (cellsF L.m fun i => basZ (if i = r then some c else s.bas i)) 3 (some 1))) := by
  have := cellsF_setL (f := fun i => basZ (s.bas i)) (x := (c : Int)) hr
  simp only [wrN, T.bas (by omega)]
  rw [if_pos ⟨by simp; omega, by simp [one1]⟩, this]
  congr 2
  refine congrArg (fun z => O.cells z 3 (some 1)) (cellsF_congr fun j hj => ?_)
  by_cases e : j = r
  · rw [if_pos e, if_pos e]; rfl
  · rw [if_neg e, if_neg e]
end Go.Proofs.Ytdbkhecnkhjhpaa
/- A pivot: its end, and the whole. -/
namespace Go.Proofs.Ytdbkhecnkhjhpaa
open Go Go.Ai
set_option linter.unusedSimpArgs false
set_option linter.unusedVariables false
attribute [local instance] Classical.propDecidable
variable {E : Env} {h0 h : List O} {L : Lay} {s : Tab} {l : List (Int × Int × Nat)} {clock : Nat} {T0 : Nat → Nat → Int}

def pvG : R := match pvF with | .seq _ g => g | _ => .skip
def pvH : R := match pvF with | .seq g _ => g | _ => .skip
theorem pvF_eq : pvF = .seq pvH pvG := rfl

theorem pvG_ok (T : TabAt h0 L s l clock h) (o : L.Ok h0) {r c : Nat} {p : Int} (hr : r < L.m) (hat : atZ c l 0 = none) (hbo : ∀ x ∈ l, x.2.2 < clock) {fr : Fr} (hf : PvFr L r c p fr) {f : Nat} (hfl : h0.length ≤ f) (hfh : f < h.length) {Q : Post}
    (hQ : ∀ fr' h' f', TabAt h0 L { s with bas := fun i => if i = r then some c else s.bas i } (l ++ [((c : Int), (r : Int), clock)]) (clock + 1) h' → h'.length = h.length → h0.length ≤ f' → f' < h.length → Q .normal fr' ⟨h', f'⟩) : DW E pvG fr ⟨h, f⟩ Q := by
  obtain ⟨g0, g1, g2, g6⟩ := hf
  rcases o.bb with ⟨h1, _⟩ | ⟨b1, b2, b3, b4, b5, b6⟩
  · omega
  have r3 := T.rdBas
  have r6 := T.rdMap
  rw [b2] at r3
  have w := T.wrBas hr c
  have T2 := T.setBas o hr c
  have bmo := o.bm
  generalize hH : h.set L.bb (.cells (cellsF L.m fun i => basZ (if i = r then some c else s.bas i)) 3 (some 1)) = H at w T2
  have hHl : H.length = h.length := by rw [← hH]; simp
  have hbm : L.bm < H.length := (List.getElem?_eq_some_iff.1 T2.map).1
  have me : ∀ f, mapEntryS [some .i64] false (.int .i64 0) ⟨H, f⟩ (.map (some L.bm)) (.int .i64 c) = some (.val (.tuple #[.int .i64 0, .int .i64 clock]), ⟨H.set L.bm (.map (l.map entZ ++ [{ key := .int .i64 c, val := .int .i64 0, born := clock }]) (clock + 1)), min f L.bm⟩) := fun f => mapEntryS_ent (st := ⟨H, f⟩) T2.map hat
  have es : ∀ f, entryStoreS ⟨H.set L.bm (.map (l.map entZ ++ [{ key := .int .i64 c, val := .int .i64 0, born := clock }]) (clock + 1)), f⟩ (.map (some L.bm)) (.int .i64 clock) (.int .i64 r) = some (.val undef, ⟨H.set L.bm (.map ((l ++ [((c : Int), (r : Int), clock)]).map entZ) (clock + 1)), min f L.bm⟩) := fun f => entryStoreS_ent hbm hbo
  have pbm := o.pbm
  show DW E (match pvF with | .seq _ g => g | _ => .skip) fr ⟨h, f⟩ Q
  unfold pvF rb69
  simp [g0, g1, g2, r3, r6, hr, w, me, es]
  have TM := T2.setMap o (l ++ [((c : Int), (r : Int), clock)]) (clock + 1)
  simp only [List.map_append, List.map_cons, List.map_nil] at TM
  exact ⟨⟨fun _ => b3, fun _ => b3⟩, ⟨fun _ => ⟨b5, fun e => b5 e.symm⟩, fun _ e => pbm e.symm, fun _ e => pbm e.symm⟩, ⟨rfl, fun _ => ⟨b5, fun e => b5 e.symm⟩, fun _ e => pbm e.symm, fun _ e => pbm e.symm⟩, hQ _ _ _ TM (by simpa using hHl) (by omega) (by omega)⟩
theorem pvH_ok (T : TabAt h0 L s l clock h) (o : L.Ok h0) (hM : MapOk L.m s.bas l clock) (hinj : ∀ i j c, s.bas i = some c → s.bas j = some c → i = j) (hsm : ∀ i c, s.bas i = some c → c < L.n) {r c : Nat} {p : Int} (hr : r < L.m) (hfree : ∀ i, i ≠ r → s.bas i ≠ some c)
    {fr : Fr} (hf : PvFr L r c p fr) {f : Nat} (hfl : h0.length ≤ f) (hfh : f < h.length) {Q : Post}
    (hQ : ∀ fr' h' f' l', PvFr L r c p fr' → TabAt h0 L s l' clock h' → MapOk L.m (fun i => if i = r then none else s.bas i) l' clock → h'.length = h.length → h0.length ≤ f' → f' < h.length → Q .normal fr' ⟨h', f'⟩) : DW E pvH fr ⟨h, f⟩ Q := by
  obtain ⟨g0, g1, g2, g6⟩ := hf
  rcases o.bb with ⟨h1, _⟩ | ⟨b1, b2, b3, b4, b5, b6⟩
  · omega
  have r3 := T.rdBas
  have r6 := T.rdMap
  rw [b2] at r3
  have rb : rd h L.bb r = some (.int .i64 (basZ (s.bas r))) := by simp [rd, T.bas (by omega), cellsF_get hr]
  have bmo := o.bm
  show DW E (match pvF with | .seq g _ => g | _ => .skip) fr ⟨h, f⟩ Q
  unfold pvF rb69
  cases hb : s.bas r with
  | none =>
    rw [hb] at rb
    simp only [basZ] at rb
    simp [g0, g1, g2, r3, r6, hr, rb]
    refine hQ _ _ _ l (by simp [PvFr, g0, g1, g2, g6]) T ?_ rfl hfl hfh
    have : (fun i => if i = r then none else s.bas i) = s.bas := by
      funext i; by_cases e : i = r
      · subst e; rw [if_pos rfl, hb]
      · rw [if_neg e]
    rw [this]; exact hM
  | some c0 =>
    rw [hb] at rb
    simp only [basZ] at rb
    have hd : ∀ f, deleteS [some .i64] false ⟨h, f⟩ (.map (some L.bm)) (.int .i64 c0) = some (.val undef, ⟨h.set L.bm (.map ((eraseZ c0 l).map entZ) clock), min f L.bm⟩) := fun f => deleteS_ent (st := ⟨h, f⟩) T.map
    simp [g0, g1, g2, r3, r6, hr, rb, hd]
    exact hQ _ _ _ _ (by simp [PvFr, g0, g1, g2, g6]) (T.setMap o _ _) (hM.erase hinj hb) (by simp) (by omega) (by omega)

/-- The pivot, as a whole. -/
theorem pivot69 (hE : LpE E) (T : TabAt h0 L s l clock h) (o : L.Ok h0) (hM : MapOk L.m s.bas l clock) (hI : TInv L.m L.n T0 s) (hs : Small L s) {r c : Nat} (hr : r < L.m) (hc : c < L.n) (hp : s.t r c ≠ 0) (hraw : ∀ i j, i < L.M → j < L.N → I64 (rawT s r c i j) ∧ I64 (- rawT s r c i j)) :
    DC E 69 [.pointer (some ⟨L.p, 0, none⟩), .int .i64 r, .int .i64 c] ⟨h, h.length⟩ fun o st' => o = .ret (.tuple #[]) ∧ ∃ l' clock', TabAt h0 L (Ai.stepT s r c) l' clock' st'.h ∧ MapOk L.m (Ai.stepT s r c).bas l' clock' ∧ st'.h.length = h.length ∧ h0.length ≤ st'.fl ∧ st'.fl < h.length := by
  refine hE.fnC (body := rb69) rfl (by decide) ?_
  rw [rb69_eq]
  have hrM : r < L.M := by rw [L.M_eq]; omega
  have hcN : c < L.N := by rw [L.N_eq]; omega
  have r1 := T.rdHdr hrM
  have r3 := T.rdRows
  have r5 := T.rdRow (j := c) hrM hcN
  have sm := o.small
  have hs0 := hs.2 r c hrM hcN
  have hfree : ∀ i, i ≠ r → s.bas i ≠ some c := fun i hn hb => hp ((hI.basic i c hb).2.2 r (by omega) fun e => hn e.symm)
  have hk := T.keep.1
  rw [DW_seq]
  show DW E (match rb69 with | .seq a _ => a | _ => .skip) _ ⟨h, h.length⟩ _
  unfold rb69
  simp [r1, r3, r5, hrM, hcN]
  refine pvB_ok hE T o hI hs hr hc (fun i j hi hj => (hraw i j hi hj).1) (by simp [PvFr]) hk fun fr1 h1 f1 p1 T1 hl1 hf1 => ?_
  simp
  refine pvC_ok T1 o p1 hf1 fun fr2 h2 f2 p2 T2 hl2 hf2 hg2 => ?_
  simp
  refine pvD_ok T2 o hp (fun i j hi hj => hraw i j hi hj) (by constructor <;> simp only <;> omega) p2 hf2 (by omega) fun fr3 h3 f3 p3 T3 hl3 hf3 hg3 => ?_
  simp
  rw [pvF_eq, DW_seq]
  refine pvH_ok T3 o hM (fun i j c h1 h2 => hI.inj h1 h2) (fun i c hb => (hI.basic i c hb).1) hr hfree p3 hf3 (by omega) fun fr4 h4 f4 l4 p4 T4 hM4 hl4 hf4 hg4 => ?_
  simp
  refine pvG_ok T4 o hr (hM4.free fun i => ?_) hM4.born p4 hf4 (by omega) fun fr5 h5 f5 T5 hl5 hf5 hg5 => ?_
  · by_cases e : i = r
    · rw [if_pos e]; simp
    · rw [if_neg e]; exact hfree i e
  have hM5 := hM4.add hr (if_pos rfl) (fun i => by
    by_cases e : i = r
    · rw [if_pos e]; simp
    · rw [if_neg e]; exact hfree i e)
  have eb : (fun i => if i = r then some c else if i = r then none else s.bas i) = (Ai.stepT s r c).bas := by
    funext i; simp only [Ai.stepT]; by_cases e : i = r <;> simp [e]
  rw [eb] at hM5
  simp
  unfold back
  rw [if_neg (by simp; omega)]
  exact ⟨rfl, _, _, T5.congr rfl (fun i _ => rfl) (fun i j _ _ => rfl), hM5, by simp only; omega, hf5, by simp only; omega⟩
end Go.Proofs.Ytdbkhecnkhjhpaa
