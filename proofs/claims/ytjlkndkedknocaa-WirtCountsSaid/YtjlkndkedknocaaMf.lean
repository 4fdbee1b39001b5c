/- Texts that were built one by one: Odq, Or1, Oh, Wp1, Wa1, Wa2, Wa3, Wa4, Wa5, Wc1, Od18, Wc2, Wr4, Wc4, Wc5, Wc6, Wc7, Wc8, Wc9, Wd1, Wd2. -/
import Derived.Test.YtjlkndkedknocaaMe
import Derived.Test.YtjlkndkedknocaaAiFm
import Derived.Test.YtjlkndkedknocaaMd
import Derived.Test.YtjlkndkedknocaaChecked
import Derived.KernelRfl
import Derived.Test.YtjlkndkedknocaaRows
import Derived.WalkKit
import Derived.ProofKit
import Derived.OpenShut
import Derived.SizedLaws
set_option linter.unusedSimpArgs false
set_option linter.unusedVariables false
namespace Go.Proofs.Ytjlkndkedknocaa
open Go Go.Ai
attribute [local instance] Classical.propDecidable
theorem rdN_block {h : List O} {b o n : Nat} {l : List Value} (hr : rdN h b o n = some l) : ∃ c el ow, h[b]? = some (.cells c el ow) ∧ o + n ≤ c.length ∧ l = (c.drop o).take n := by
 unfold rdN at hr
 split at hr
 ·rename_i c el ow hb
  split at hr
  ·rename_i hl
   exact ⟨c, el, ow, hb, hl, (Option.some.inj hr).symm⟩
  ·cases hr
 ·cases hr
theorem CrossP.whole {h : List O} {a : Option Addr} {n : Nat} {x : Nat → Nat → Int} {s : Nat → Int} (k : CrossP h a n x s) (hn : 0 < n) : ∃ b o l, a = some ⟨b, o, none⟩ ∧ rdN h b o (n * 5) = some l ∧ l.length = n * 5 ∧ l.all one1 = true ∧ ∀ i, i < n → (l.drop (i * 5)).take 5 = crossC (x i) (s i) := by
 obtain ⟨b, o, h1, h2⟩ := k
 obtain ⟨c, el, ow, hb, hl, _⟩ := rdN_block (h2 (n - 1) (by omega))
 have hle : o + n * 5 ≤ c.length := by omega
 have hparts : ∀ i, i < n → (((c.drop o).take (n * 5)).drop (i * 5)).take 5 = crossC (x i) (s i) := fun i hi => by
  have h3 := h2 i hi
  rw [rdN_def, hb, rdNO_cells, if_pos (by omega)] at h3
  have h4 := Option.some.inj h3
  rw [List.drop_take, List.drop_drop, List.take_take, Nat.min_eq_left (by omega)]
  exact h4
 have hlen : ((c.drop o).take (n * 5)).length = n * 5 := by simp; omega
 obtain ⟨m, hm⟩ : ∃ m, m = (c.drop o).take (n * 5) := ⟨_, rfl⟩
 rw [← hm] at hparts hlen
 refine ⟨b, o, m, h1 hn, by rw [rdN_def, hb, rdNO_cells, if_pos hle, hm], hlen, ?_, hparts⟩
 clear hm
 rw [List.all_eq_true]
 intro v hv
 obtain ⟨j, hj, rfl⟩ := List.getElem_of_mem hv
 have hj2 : j < n * 5 := by omega
 have h3 := hparts (j / 5) (by omega)
 have h4 := congrArg (fun l => l[j % 5]?) h3
 simp only [List.getElem?_take, List.getElem?_drop] at h4
 rw [if_pos (Nat.mod_lt _ (by omega)), show j / 5 * 5 + j % 5 = j by omega, List.getElem?_eq_getElem hj] at h4
 have h5 : j % 5 < 5 := Nat.mod_lt _ (by omega)
 generalize j % 5 = q at h4 h5
 match q, h5 with
 | 0, _ => rw [Option.some.inj h4]; rfl
 | 1, _ => rw [Option.some.inj h4]; rfl
 | 2, _ => rw [Option.some.inj h4]; rfl
 | 3, _ => rw [Option.some.inj h4]; rfl
 | 4, _ => rw [Option.some.inj h4]; rfl
theorem append_e0 {el : TypeId} {size bytes c : Nat} {a : Option Addr} {st : St} : appendV el size bytes emptyS (.slice a 0 c) st = some (emptyS, st) := by
 have : readSlice st.h size 0 a = some [] := by unfold readSlice; split <;> simp
 simp [appendV, emptyS, this, appendCells]
theorem append_eN {el : TypeId} {size bytes b o n c fl : Nat} {H : List O} {l : List Value} (hr : rdN H b o (n * size) = some l) (hn : 0 < n) (hs : 0 < size) (hall : l.all one1 = true) (hroom : n * bytes ≤ roomMax) :
  appendV el size bytes emptyS (.slice (some ⟨b, o, none⟩) n c) ⟨H, fl⟩ = some (.slice (some ⟨H.length, 0, none⟩) n n, ⟨H ++ [.cells l el (some size)], fl⟩) := by
 have hns : ¬ n * size = 0 := by
  have := Nat.mul_pos hn hs; omega
 have hrd : readSlice H size n (some ⟨b, o, none⟩) = some l := by simp only [readSlice]; rw [if_neg hns]; exact hr
 simp only [appendV, emptyS, hrd, bind, Option.bind_some, appendCells]
 rw [if_neg (by omega), if_neg (by omega), if_pos ⟨by rw [Nat.zero_add]; exact hroom, hall⟩]
 simp [readSlice, kill]
variable {E : Env} (hE : OE E)
include hE
end Go.Proofs.Ytjlkndkedknocaa
namespace Go.Proofs.Ytjlkndkedknocaa
open Go Go.Ai
theorem follows : Try.prog.follows .mixedOrders = true := by kernel_rfl
noncomputable def mine : List Nat := (List.range rfs.length).filter fun f => (rF f).isSome
theorem codes : mine.map (compileF Try.prog) = mine.map rF := by kernel_rfl
def callableB (P : Program) (f : FuncId) : Bool := match P.funcs[f]? with
 | some fn => !(fn.name == "runtime.NumGoroutine") && fn.body.isSome
 | none => false
theorem callableB_ok {P : Program} {f : FuncId} (h : callableB P f = true) : Callable P f := by
 unfold callableB at h
 split at h
 ·rename_i fn hfn
  simp only [Bool.and_eq_true, Bool.not_eq_true', beq_eq_false_iff_ne] at h
  refine ⟨fn, hfn, h.1, fun hb => ?_⟩
  rw [hb] at h
  simp at h
 ·cases h
theorem callables : mine.all (fun f => callableB Try.prog f) = true := by kernel_rfl
theorem rF_mem {f : FuncId} {rf : RFun} (h : rF f = some rf) : f ∈ mine := by
 refine List.mem_filter.2 ⟨List.mem_range.2 ?_, by rw [h]; rfl⟩
 unfold rF at h
 cases hx : rfs[f]? with
 | none => rw [hx] at h; cases h
 | some o => exact (List.getElem?_eq_some_iff.1 hx).1
theorem map_at {α : Type} {l : List Nat} {p q : Nat → α} (h : l.map p = l.map q) {x : Nat} (hx : x ∈ l) : p x = q x := by
 obtain ⟨i, hi, rfl⟩ := List.getElem_of_mem hx
 have := congrArg (fun l => l[i]?) h
 simpa [hi] using this
theorem rF_ok {f : FuncId} {rf : RFun} (h : rF f = some rf) : compileF Try.prog f = some rf ∧ Callable Try.prog f := by
 have hm := rF_mem h
 exact ⟨(map_at codes hm).trans h, callableB_ok (List.all_eq_true.1 callables f hm)⟩
noncomputable def cmpT (nt : Nat) (c : Code) : Option R := match compile Try.prog nt c with
 | some r => if noRange r then some r else none
 | none => none
theorem cmpT_ok {nt : Nat} {c : Code} {r : R} (h : cmpT nt c = some r) : compile Try.prog nt c = some r ∧ noRange r = true := by
 unfold cmpT at h
 split at h
 ·rename_i r' hr
  split at h
  ·rename_i hn
   obtain rfl := Option.some.inj h
   exact ⟨hr, hn⟩
  ·cases h
 ·cases h
noncomputable def E0 : Env := { F := rF, S := fun _ => none, cmp := cmpT }
theorem E0_ok (B : Nat) : EnvOk Fence.wide Try.prog B E0 := ⟨fun f rf h => rF_ok h, fun f s h => (by cases h), fun f s h => (by cases h), fun nt c r h => cmpT_ok h⟩
theorem E0_kept : SumsKept E0 := fun f s h => (by cases h)
end Go.Proofs.Ytjlkndkedknocaa
namespace Go.Proofs.Ytjlkndkedknocaa
open Go Go.Ai Go.ChangeShapes Go.WideShapes Go.ChangeAt Go.RowKit
set_option maxRecDepth 4000
def crossSh : List Sh := [.int .i64, .int .i64, .int .i64, .int .i64, .int .i64]
def diagSh : List Sh := [.slice crossSh, .int .i64]
theorem shapesD : shapes Try.prog 8 24 = some diagSh := by kernel_rfl
theorem shapesI : shapes Try.prog 8 3 = some [.int .i64] := by kernel_rfl
theorem own : ownKnob Try.prog.godebug = none := by kernel_rfl
theorem int_of {h : List O} {v : Value} (hf : Fits h (.int .i64) v) : ∃ x, v = .int .i64 x ∧ I64 x := by
 cases hf with
 | int hw =>
  rename_i y
  refine ⟨y, rfl, ?_⟩
  have : -9223372036854775808 ≤ y ∧ y ≤ 9223372036854775807 := by simpa [Lit.wf, IntKind.min, IntKind.max, IntKind.signed, IntKind.bits] using hw
  exact this
def intOf : Option Value → Int
 | some (.int _ x) => x
 | _ => 0
theorem cross_of {h : List O} {v : Value} (hf : Fits h (.slice crossSh) v) : ∃ a n c x s, v = .slice a n c ∧ CrossP h a n x s ∧ n * 40 ≤ roomMax := by
 cases hf with
 | slice b o vs hn ha hr hv =>
  rename_i a n c
  have key : ∀ i, i < n → ∃ x0 x1 x2 x3 s, vs i = [.int .i64 x0, .int .i64 x1, .int .i64 x2, .int .i64 x3, .int .i64 s] := fun i hi => by
   have h1 := hr i hi
   have hl : (vs i).length = 5 := by
    obtain ⟨c, el, ow, _, h2, h3⟩ := rdN_block h1
    rw [h3]
    simp [crossSh] at h2 ⊢
    omega
   match hvi : vs i, hl with
   | [v0, v1, v2, v3, v4], _ =>
    obtain ⟨x0, rfl, _⟩ := int_of (hv i 0 _ v0 hi rfl (by rw [hvi]; rfl))
    obtain ⟨x1, rfl, _⟩ := int_of (hv i 1 _ v1 hi rfl (by rw [hvi]; rfl))
    obtain ⟨x2, rfl, _⟩ := int_of (hv i 2 _ v2 hi rfl (by rw [hvi]; rfl))
    obtain ⟨x3, rfl, _⟩ := int_of (hv i 3 _ v3 hi rfl (by rw [hvi]; rfl))
    obtain ⟨s, rfl, _⟩ := int_of (hv i 4 _ v4 hi rfl (by rw [hvi]; rfl))
    exact ⟨x0, x1, x2, x3, s, rfl⟩
  refine ⟨a, n, c, fun i j => intOf (vs i)[j]?, fun i => intOf (vs i)[4]?, rfl, ⟨b, o, ha, fun i hi => ?_⟩, ?_⟩
  ·obtain ⟨x0, x1, x2, x3, s, e⟩ := key i hi
   have h1 := hr i hi
   rw [show crossSh.length = 5 from rfl] at h1
   rw [h1]
   simp only [crossC, e]
   rfl
  ·have h0 := hn.1
   simp [reachBytes, szB, crossSh, roomMax] at h0 ⊢
   omega
theorem diag_of {h : List O} {cs : List Value} (hf : FitsL h diagSh cs) : ∃ a n c x s L, cs = [.slice a n c, .int .i64 L] ∧ CrossP h a n x s ∧ n * 40 ≤ roomMax := by
 obtain ⟨hl, hv⟩ := hf
 match cs, hl with
 | [v, l], _ =>
  obtain ⟨a, n, c, x, s, rfl, h1, h2⟩ := cross_of (hv 0 _ v rfl rfl)
  obtain ⟨L, rfl, _⟩ := int_of (hv 1 _ l rfl rfl)
  exact ⟨a, n, c, x, s, L, rfl, h1, h2⟩
theorem arg_of {H : Type} {enc : TypeId × Value → H} {W : World} {base : Nat} {t : TypeId} {fs : Array Field} {v : Value} {d : DataW H} {ps : List MemPlace} {shs : List Sh} (ht : Try.prog.underlying t = some (.struct fs)) (hsh : shapes Try.prog 8 t = some shs)
  (hok : Value.okWide Try.prog W .any base t v) (h : DataW.Trod enc Try.prog W 0 (fun _ => true) true t v d ps) (hw : ∀ n ∈ d.weights Try.prog t, n ≤ reachBytes) :
  ∃ cs, v = .agg cs ∧ Canon W shs cs.toList := by
 obtain ⟨fuel, hx⟩ := h
 have hok' : ∃ cs, v = .agg cs ∧ cs.size = Try.prog.cellsOf t ∧ Row.okWide Try.prog W .any base t cs := by
  unfold Value.okWide at hok
  rw [ht] at hok
  exact hok
 obtain ⟨cs, rfl, _⟩ := hok'
 exact ⟨cs, rfl, canon 8 fuel t _ (d, ps) shs hsh hx hw⟩
theorem arg1_of {H : Type} {enc : TypeId × Value → H} {W : World} {base : Nat} {t : TypeId} {v : Value} {d : DataW H} {ps : List MemPlace} {sh : Sh} (ht : (∃ e, Try.prog.underlying t = some (.slice e)) ∨ ∃ k, Try.prog.underlying t = some (.int k)) (hsh : shapes Try.prog 8 t = some [sh])
  (hok : Value.okWide Try.prog W .any base t v) (h : DataW.Trod enc Try.prog W 0 (fun _ => true) true t v d ps) (hw : ∀ n ∈ d.weights Try.prog t, n ≤ reachBytes) :
  Canon W [sh] [v] := by
 obtain ⟨fuel, hx⟩ := h
 have hv : v.cells.toList = [v] := by
  unfold Value.okWide at hok
  rcases ht with ⟨e, ht⟩ | ⟨k, ht⟩
  ·rw [ht] at hok
   simp only [Cell.okWide, ht] at hok
   cases v <;> first | rfl | (exfalso; simp [Cell.ok, ht] at hok)
  ·rw [ht] at hok
   simp only [Cell.okWide, ht] at hok
   cases v <;> first | rfl | (exfalso; simp [Cell.ok, ht] at hok)
 rw [hv] at hx
 exact canon 8 fuel t _ (d, ps) [sh] hsh hx hw
theorem single_of {ρ : RM} {h : List O} {sh : Sh} {cs : List Value} {v : Value} (hr : LRel ρ cs [v]) (hf : FitsL h [sh] cs) : ∃ w, cs = [w] ∧ VRel ρ w v ∧ Fits h sh w := by
 obtain ⟨hl, hv⟩ := hf
 match cs, hl with
 | [w], _ => exact ⟨w, rfl, hr.2 0 w v rfl rfl, hv 0 _ _ rfl rfl⟩
theorem start (W : World) : SRel W.heap.size (fun _ => none) W ⟨[], 0⟩ :=
 ⟨⟨Nat.le_refl _, fun id l h => by simp at h, fun id l h => by simp at h, fun id l h => by simp at h, fun i j li lj _ h => by simp at h⟩, fun id l h => by simp at h⟩
def zeroD : Value := .agg #[.slice none 0 0, .int .i64 0]
end Go.Proofs.Ytjlkndkedknocaa
namespace Go.Ai
attribute [local instance] Classical.propDecidable
def jn (r : Nat → Nat) (a b : Nat) : Nat → Nat := fun i => if r i = max (r a) (r b) then min (r a) (r b) else r i
structure Rep (r : Nat → Nat) : Prop where
 le : ∀ i, r i ≤ i
 idem : ∀ i, r (r i) = r i
theorem jn_cases (r : Nat → Nat) (a b i : Nat) : (r i = max (r a) (r b) ∧ jn r a b i = min (r a) (r b)) ∨ (r i ≠ max (r a) (r b) ∧ jn r a b i = r i) := by
 unfold jn
 by_cases h : r i = max (r a) (r b)
 ·exact .inl ⟨h, if_pos h⟩
 ·exact .inr ⟨h, if_neg h⟩
theorem jn_ends (r : Nat → Nat) (a b : Nat) : (max (r a) (r b) = r a ∧ min (r a) (r b) = r b) ∨ (max (r a) (r b) = r b ∧ min (r a) (r b) = r a) := by omega
theorem Rep.jn {r : Nat → Nat} (h : Rep r) (a b : Nat) : Rep (jn r a b) := by
 have hm : r (min (r a) (r b)) = min (r a) (r b) := by
  rcases jn_ends r a b with ⟨_, e⟩ | ⟨_, e⟩
  ·rw [e]; exact h.idem b
  ·rw [e]; exact h.idem a
 refine ⟨fun i => ?_, fun i => ?_⟩
 ·have := h.le i
  rcases jn_cases r a b i with ⟨h1, h2⟩ | ⟨h1, h2⟩ <;> omega
 ·rcases jn_cases r a b i with ⟨h1, h2⟩ | ⟨h1, h2⟩
  ·rw [h2]
   rcases jn_cases r a b (min (r a) (r b)) with ⟨h3, h4⟩ | ⟨h3, h4⟩
   ·exact h4
   ·rw [h4]; exact hm
  ·rw [h2]
   rcases jn_cases r a b (r i) with ⟨h3, h4⟩ | ⟨h3, h4⟩
   ·rw [h.idem i] at h3; exact absurd h3 h1
   ·rw [h4]; exact h.idem i
theorem jn_eq (r : Nat → Nat) (a b : Nat) : jn r a b a = jn r a b b := by
 rcases jn_cases r a b a with ⟨h1, h2⟩ | ⟨h1, h2⟩ <;> rcases jn_cases r a b b with ⟨h3, h4⟩ | ⟨h3, h4⟩ <;> omega
theorem jn_mono {r : Nat → Nat} {a b i j : Nat} (h : r i = r j) : jn r a b i = jn r a b j := by unfold jn; rw [h]
theorem jn_const {α : Type} {f : Nat → α} {r : Nat → Nat} {a b : Nat} (h : ∀ i, f (r i) = f i) (e : f a = f b) (i : Nat) : f (jn r a b i) = f i := by
 rcases jn_cases r a b i with ⟨h1, h2⟩ | ⟨h1, h2⟩
 ·rw [h2, ← h i, h1]
  rcases jn_ends r a b with ⟨e1, e2⟩ | ⟨e1, e2⟩
  ·rw [e1, e2, h a, h b, e]
  ·rw [e1, e2, h a, h b, e]
 ·rw [h2, h i]
def archR (X : Nat → Nat → Nat) : Nat → Nat → Nat
 | 0 => fun i => i
 | c + 1 => jn (archR X c) (X c 1) (X c 3)
theorem archR_rep (X : Nat → Nat → Nat) : ∀ k, Rep (archR X k) := by
 intro k
 induction k with
 | zero => exact ⟨fun i => Nat.le_refl _, fun i => rfl⟩
 | succ k ih => exact ih.jn _ _
theorem archR_eq (X : Nat → Nat → Nat) : ∀ k c, c < k → archR X k (X c 1) = archR X k (X c 3) := by
 intro k
 induction k with
 | zero => intro c h; omega
 | succ k ih =>
  intro c h
  rcases Nat.lt_or_ge c k with h1 | h1
  ·exact jn_mono (ih c h1)
  ·have : c = k := by omega
   subst this
   exact jn_eq _ _ _
theorem archR_const {α : Type} {f : Nat → α} {X : Nat → Nat → Nat} : ∀ k, (∀ c, c < k → f (X c 1) = f (X c 3)) → ∀ i, f (archR X k i) = f i := by
 intro k
 induction k with
 | zero => intro _ i; rfl
 | succ k ih => intro h i; exact jn_const (fun i => ih (fun c hc => h c (by omega)) i) (h k (by omega)) i
noncomputable def cntR (r : Nat → Nat) (i : Nat) : Nat := cntP (fun b => r b = b) i
theorem cntR_succ (r : Nat → Nat) (i : Nat) : cntR r (i + 1) = if r i = i then cntR r i + 1 else cntR r i := by
 unfold cntR
 simp only [cntP]
 split <;> rfl
structure UF (r : Nat → Nat) (N : Nat) (up : List Int) : Prop where
 rep : Rep r
 len : up.length = N
 at_ : ∀ i, i < N → ∃ u : Nat, nth up i = u ∧ u ≤ i ∧ r u = r i ∧ (u = i ↔ r i = i)
theorem UF.join {r : Nat → Nat} {N a b : Nat} {up : List Int} (h : UF r N up) (ha : a < N) (hb : b < N) : UF (jn r a b) N (up.set (max (r a) (r b)) ((min (r a) (r b) : Nat) : Int)) := by
 have hM : max (r a) (r b) < up.length := by
  have h1 := h.rep.le a
  have h2 := h.rep.le b
  have h3 := h.len
  omega
 refine ⟨h.rep.jn a b, by simp [h.len], fun i hi => ?_⟩
 have hRM : r (max (r a) (r b)) = max (r a) (r b) := by
  rcases jn_ends r a b with ⟨e, _⟩ | ⟨e, _⟩
  ·rw [e]; exact h.rep.idem a
  ·rw [e]; exact h.rep.idem b
 have hRm : r (min (r a) (r b)) = min (r a) (r b) := by
  rcases jn_ends r a b with ⟨_, e⟩ | ⟨_, e⟩
  ·rw [e]; exact h.rep.idem b
  ·rw [e]; exact h.rep.idem a
 rw [nth_set hM]
 by_cases e : i = max (r a) (r b)
 ·rw [if_pos e]
  refine ⟨_, rfl, by omega, ?_, ?_⟩
  ·have h1 := jn_cases r a b i
   have h2 := jn_cases r a b (min (r a) (r b))
   rw [e] at h1 ⊢
   rw [hRM] at h1
   rw [hRm] at h2
   omega
  ·have h1 := jn_cases r a b i
   rw [e] at h1 ⊢
   rw [hRM] at h1
   omega
 ·rw [if_neg e]
  obtain ⟨u, h1, h2, h3, h4⟩ := h.at_ i hi
  refine ⟨u, h1, h2, jn_mono h3, ?_⟩
  rcases jn_cases r a b i with ⟨h5, h6⟩ | ⟨h5, h6⟩
  ·have := h.rep.le i
   rw [h6]
   constructor
   ·intro hu
    have := h4.1 hu
    omega
   ·intro hm
    omega
  ·rw [h6]; exact h4
end Go.Ai
namespace Go.Proofs.Ytjlkndkedknocaa
open Go Go.Ai
attribute [local instance] Classical.propDecidable
variable {E : Env} (hE : OE E)
include hE
theorem root_ {h : List O} {pl b N c : Nat} {up : List Int} {r : Nat → Nat} {el : TypeId} {own : Option Nat} (hp : rd h pl 0 = some (.slice (some ⟨b, 0, none⟩) N c)) (hb : h[b]? = some (.cells (intsC up) el own)) (hU : UF r N up) {i : Nat} (hi : i < N) :
  DR E 185 [.pointer (some ⟨pl, 0, none⟩), .int .i64 i] ⟨h, h.length⟩ (.ret (.int .i64 (r i))) ⟨h, h.length⟩ := by
 refine hE.fn (body := rb185) rfl ?_
 unfold rb185
 simp
 refine DW_loop (fun kk fr st => ∃ (j : Nat), j = kk ∧ j < N ∧ r j = r i ∧ st = ⟨h, h.length⟩ ∧ get fr 0 = .pointer (some ⟨pl, 0, none⟩) ∧ get fr 1 = .int .i64 j) ?_ (k := i) ?_
 ·rintro kk fr st ⟨j, rfl, hj, hr, rfl, g0, g1⟩
  obtain ⟨u, h1, h2, h3, h4⟩ := hU.at_ j hj
  have hjl : j < up.length := by rw [hU.len]; exact hj
  by_cases hu : u = j
  ·have hrj := h4.1 hu
   simp [g0, g1, hp, rd_def, hb, hj, intsC_get hjl, h1, hu]
   have hp' := hp
   rw [rd_def] at hp'
   simp [hp', hb, hj, intsC_get hjl, h1, hu, endK_ret, ← hr, hrj]
  ·have hp' := hp
   rw [rd_def] at hp'
   have hlt : u < j := by omega
   simp [g0, g1, rd_def, hp', hb, hj, intsC_get hjl, h1, hu]
   exact ⟨u, hlt, by omega, by omega, rfl⟩
 ·exact ⟨i, rfl, hi, rfl, rfl, by simp⟩
theorem joinW_ {h : List O} {pl b N c : Nat} {up : List Int} {r : Nat → Nat} {el : TypeId} {s : Nat} (hp : rd h pl 0 = some (.slice (some ⟨b, 0, none⟩) N c)) (hb : h[b]? = some (.cells (intsC up) el (some s))) (hU : UF r N up) {i j : Nat} (hi : i < N) (hj : j < N) :
  DR E 184 [.pointer (some ⟨pl, 0, none⟩), .int .i64 i, .int .i64 j] ⟨h, h.length⟩ (.ret (.tuple #[])) ⟨h.set b (.cells (intsC (up.set (max (r i) (r j)) ((min (r i) (r j) : Nat) : Int))) el (some s)), b⟩ := by
 refine hE.fn (body := rb184) rfl ?_
 unfold rb184
 have r1 := root_ hE hp hb hU hi
 have r2 := root_ hE hp hb hU hj
 have hbl := (List.getElem?_eq_some_iff.1 hb).1
 have hM : max (r i) (r j) < N := by
  have h1 := hU.rep.le i
  have h2 := hU.rep.le j
  omega
 have hmx : max ((r i : Nat) : Int) (r j) = ((max (r i) (r j) : Nat) : Int) := by omega
 have hmn : min ((r i : Nat) : Int) (r j) = ((min (r i) (r j) : Nat) : Int) := by omega
 generalize max (r i) (r j) = M at hM hmx ⊢
 generalize min (r i) (r j) = m at hmn ⊢
 have hl := hU.len
 have hM2 : M + 1 ≤ up.length := by omega
 have hp' := hp
 rw [rd_def] at hp'
 simp [DC_of r1, DC_of r2, rd_def, hp', hmx, hmn, hM, wrN_def, hb, hM2, intsC_set, endK_normal]
 unfold pairQ back
 rw [if_neg (by simp; omega)]
 simp [Nat.min_eq_right (Nat.le_of_lt hbl)]
end Go.Proofs.Ytjlkndkedknocaa
namespace Go.Ai
attribute [local instance] Classical.propDecidable
theorem atG_fresh {κ : Type} {k : κ} : ∀ {l : List (κ × Value × Nat)} {i : Nat}, (∀ y ∈ l, k ≠ y.1) → atG k l i = none := by
 intro l
 induction l with
 | nil => intro i _; rfl
 | cons y l ih =>
  intro i h
  simp only [atG]
  rw [if_neg (h y (by simp))]
  exact ih fun z hz => h z (by simp [hz])
theorem updS_fresh {κ : Type} {kc : κ → List Value} {shape : List (Option IntKind)} (K : KeyOk kc shape) {l : List (κ × Value × Nat)} {h : List O} {f b clock : Nat} (hb : h[b]? = some (.map (l.map (entG kc)) clock)) {k : κ} (hn : ∀ y ∈ l, k ≠ y.1) (v : Value) :
  updS shape true ⟨h, f⟩ (.map (some b)) (.agg (kc k).toArray) v = some (.val undef, ⟨h.set b (.map ((l ++ [(k, v, clock)]).map (entG kc)) (clock + 1)), min f b⟩) := by
 simp only [updS, hb, findK_G K, bind, Option.bind_some, atG_fresh hn]
 simp [entG]
def idL (i : Nat) : List Int := (List.range i).map fun (j : Nat) => (j : Int)
theorem idL_succ (i : Nat) : idL (i + 1) = idL i ++ [(i : Int)] := by simp [idL, List.range_succ]
theorem idL_length (i : Nat) : (idL i).length = i := by simp [idL]
theorem idL_nth {i j : Nat} (h : j < i) : nth (idL i) j = j := by simp [idL, nth, h]
theorem UF.start (N : Nat) : UF (fun i => i) N (idL N) := ⟨⟨fun i => Nat.le_refl _, fun i => rfl⟩, idL_length N, fun i hi => ⟨i, idL_nth hi, Nat.le_refl _, rfl, by simp⟩⟩
def tabL (f : Nat → Int) (n : Nat) : List Int := (List.range n).map f
theorem tabL_length (f : Nat → Int) (n : Nat) : (tabL f n).length = n := by simp [tabL]
theorem tabL_nth {f : Nat → Int} {n j : Nat} (h : j < n) : nth (tabL f n) j = f j := by simp [tabL, nth, h]
theorem eq_tabL {xs : List Int} {f : Nat → Int} {n : Nat} (hl : xs.length = n) (h : ∀ j, j < n → nth xs j = f j) : xs = tabL f n := by
 apply List.ext_getElem (by rw [hl, tabL_length])
 intro j h1 h2
 have := h j (by omega)
 rw [nth_eq (by omega)] at this
 rw [this, ← nth_eq, tabL_nth (by omega)]
end Go.Ai
namespace Go.Proofs.Ytjlkndkedknocaa
open Go Go.Ai
attribute [local instance] Classical.propDecidable
def arR (G : Dg) : Nat → Nat := archR G.X G.n
noncomputable def arN (G : Dg) (a : Nat) : Nat := cntR (arR G) (arR G a)
noncomputable def arC (G : Dg) : Nat := cntR (arR G) (2 * G.n)
noncomputable def arL (G : Dg) : List Int := tabL (fun a => (arN G a : Int)) (2 * G.n)
theorem arR_rep (G : Dg) : Rep (arR G) := archR_rep _ _
theorem arN_lt {G : Dg} {a : Nat} (ha : a < 2 * G.n) : arN G a < arC G := by
 have h := arR_rep G
 have h1 := h.le a
 unfold arN arC cntR
 have h2 := cntP_mono (fun b => arR G b = b) (show arR G a + 1 ≤ 2 * G.n by omega)
 simp only [cntP] at h2
 rw [if_pos (h.idem a)] at h2
 omega
theorem arC_le (G : Dg) : arC G ≤ 2 * G.n := cntP_le _ _
def inP (s : Int) : Nat := if s < 0 then 1 else 3
def lE (X : Nat → Nat → Nat) (s : Nat → Int) : Nat → List ((Nat × Nat) × Value × Nat)
 | 0 => []
 | c + 1 => (lE X s c ++ [((c, 0), .int .i64 (X c 0), 2 * c)]) ++ [((c, inP (s c)), .int .i64 (X c (inP (s c))), 2 * c + 1)]
theorem lE_lt {X : Nat → Nat → Nat} {s : Nat → Int} : ∀ {c : Nat}, ∀ y ∈ lE X s c, y.1.1 < c := by
 intro c
 induction c with
 | zero => intro y h; simp [lE] at h
 | succ c ih =>
  intro y h
  simp only [lE, List.mem_append, List.mem_singleton] at h
  rcases h with (h | rfl) | rfl
  ·have := ih y h; omega
  ·simp
  ·simp
def linkC (u : Value) (xa : Option Addr) (n xc : Nat) (L : Int) (av : Value) (cnt : Int) (cv : Value) (k : Int) (mv : Value) : List Value :=
 [u, .slice xa n xc, .int .i64 L, av, .int .i64 cnt, cv, .int .i64 k, mv]
def LinkP (h : List O) (pl n : Nat) (x : Nat → Nat → Int) (s : Nat → Int) (L : Int) (k : Nat) (xs : List Int) : Prop :=
 ∃ uv xa xc ab cb mb, h[pl]? = some (.cells (linkC uv xa n xc L (.slice (some ⟨ab, 0, none⟩) (2 * n) (2 * n)) (arC (dgOf n x s L) + L) (.slice (some ⟨cb, 0, none⟩) (2 * n) (2 * n)) (k + L) (.map (some mb))) 170 (some 0)) ∧
  CrossP h xa n x s ∧ h[ab]? = some (.cells (intsC (arL (dgOf n x s L))) 3 (some 0)) ∧ h[cb]? = some (.cells (intsC xs) 3 (some 0)) ∧
  h[mb]? = some (.map ((lE (dgOf n x s L).X s n).map (entG kcII)) (2 * n)) ∧ OrbI (2 * n) (nx (dgOf n x s L)) (2 * n) k xs ∧ k ≤ 2 * n
theorem LinkP.sub {h h' : List O} {pl n : Nat} {x : Nat → Nat → Int} {s : Nat → Int} {L : Int} {k : Nat} {xs : List Int} (hl : LinkP h pl n x s L k xs) (e : Sub h h') : LinkP h' pl n x s L k xs := by
 obtain ⟨uv, xa, xc, ab, cb, mb, h1, h2, h3, h4, h5, h6⟩ := hl
 exact ⟨uv, xa, xc, ab, cb, mb, e _ _ h1, h2.sub e, e _ _ h3, e _ _ h4, e _ _ h5, h6⟩
end Go.Proofs.Ytjlkndkedknocaa
namespace Go.Proofs.Ytjlkndkedknocaa
open Go Go.Ai
attribute [local instance] Classical.propDecidable
structure LkI (h0 h : List O) (a : Option Addr) (n c : Nat) (L : Int) (N : Nat) (uv : Value) (ar : List Int) (es : List MapEntry) (clock : Nat) (cnt : Int) : Prop where
 sub : Sub h0 h
 dg : AtB h h0.length (.cells [.slice a n c, .int .i64 L] 24 (some 0))
 ar : AtB h (h0.length + 1) (.cells (intsC ar) 3 (some 0))
 mp : AtB h (h0.length + 2) (.map es clock)
 lk : AtB h (h0.length + 3) (.cells (linkC uv a n c L (.slice (some ⟨h0.length + 1, 0, none⟩) N N) cnt (.slice none 0 0) 0 (.map (some (h0.length + 2)))) 170 (some 0))
theorem LkI.app {h0 h : List O} {a : Option Addr} {n c : Nat} {L : Int} {N : Nat} {uv : Value} {ar : List Int} {es : List MapEntry} {clock : Nat} {cnt : Int} (k : LkI h0 h a n c L N uv ar es clock cnt) (l : List O) : LkI h0 (h ++ l) a n c L N uv ar es clock cnt :=
 ⟨k.sub.app l, app_of k.dg l, app_of k.ar l, app_of k.mp l, app_of k.lk l⟩
theorem LkI.set {h0 h : List O} {a : Option Addr} {n c : Nat} {L : Int} {N : Nat} {uv : Value} {ar : List Int} {es : List MapEntry} {clock : Nat} {cnt : Int} (k : LkI h0 h a n c L N uv ar es clock cnt) {b : Nat} (hb : h0.length + 4 ≤ b) (o : O) : LkI h0 (h.set b o) a n c L N uv ar es clock cnt :=
 ⟨k.sub.set (by omega) o, set_ne k.dg (by omega), set_ne k.ar (by omega), set_ne k.mp (by omega), set_ne k.lk (by omega)⟩
theorem LkI.setM {h0 h : List O} {a : Option Addr} {n c : Nat} {L : Int} {N : Nat} {uv : Value} {ar : List Int} {es es' : List MapEntry} {clock clock' : Nat} {cnt : Int} (k : LkI h0 h a n c L N uv ar es clock cnt) : LkI h0 (h.set (h0.length + 2) (.map es' clock')) a n c L N uv ar es' clock' cnt :=
 ⟨k.sub.set (by omega) _, set_ne k.dg (by omega), set_ne k.ar (by omega), set_self k.mp, set_ne k.lk (by omega)⟩
theorem LkI.setA {h0 h : List O} {a : Option Addr} {n c : Nat} {L : Int} {N : Nat} {uv : Value} {ar ar' : List Int} {es : List MapEntry} {clock : Nat} {cnt : Int} (k : LkI h0 h a n c L N uv ar es clock cnt) : LkI h0 (h.set (h0.length + 1) (.cells (intsC ar') 3 (some 0))) a n c L N uv ar' es clock cnt :=
 ⟨k.sub.set (by omega) _, set_ne k.dg (by omega), set_self k.ar, set_ne k.mp (by omega), set_ne k.lk (by omega)⟩
theorem LkI.setL {h0 h : List O} {a : Option Addr} {n c : Nat} {L : Int} {N : Nat} {uv uv' : Value} {ar : List Int} {es : List MapEntry} {clock : Nat} {cnt cnt' : Int} (k : LkI h0 h a n c L N uv ar es clock cnt) : LkI h0 (h.set (h0.length + 3) (.cells (linkC uv' a n c L (.slice (some ⟨h0.length + 1, 0, none⟩) N N) cnt' (.slice none 0 0) 0 (.map (some (h0.length + 2)))) 170 (some 0))) a n c L N uv' ar es clock cnt' :=
 ⟨k.sub.set (by omega) _, set_ne k.dg (by omega), set_ne k.ar (by omega), set_ne k.mp (by omega), set_self k.lk⟩
variable {E : Env} (hE : OE E)
include hE
theorem newLink_ {h0 : List O} {a : Option Addr} {n c : Nat} {x : Nat → Nat → Int} {s : Nat → Int} {L : Int} (hx : CrossP h0 a n x s) (hk : kindD n x s L = 0) :
  DC E 130 [dV a n c L] ⟨h0, h0.length⟩ fun o st' => ∃ (pl k : Nat) (xs : List Int), o = .ret (.pointer (some ⟨pl, 0, none⟩)) ∧ h0.length ≤ pl ∧ h0.length ≤ st'.fl ∧ Sub h0 st'.h ∧ LinkP st'.h pl n x s L k xs := by
 refine hE.fnC (body := rb130) rfl ?_
 unfold rb130
 have hS := (kind_zero hk).1
 obtain ⟨G, hGe⟩ : ∃ G, G = dgOf n x s L := ⟨_, rfl⟩
 have hG : GoodG G := by rw [hGe]; exact good_of hS
 have hGn : G.n = n := by rw [hGe]; rfl
 have hsz := hG.size
 have hlo := hG.loops
 have hGL : G.L = L := by rw [hGe]; rfl
 rw [hGL] at hlo
 rw [hGn] at hsz
 obtain ⟨N, hN⟩ : ∃ N, N = 2 * n := ⟨_, rfl⟩
 have hX : ∀ i q, i < n → q < 4 → x i q = (G.X i q : Int) := fun i q hi hq => by rw [hGe]; exact sound_x hS hi hq
 have hXlt : ∀ i q, i < n → q < 4 → G.X i q < N := fun i q hi hq => by rw [hN, ← hGn]; exact hG.X i q (by rw [hGn]; exact hi) hq
 have e1 : (N : Int) * 8 ≤ 140737488355328 := by omega
 have e2 : (N : Int) < 4611686018427387904 := by omega
 have hw2n : IntKind.i64.wrap (2 * (n : Int)) = N := by rw [w64_id] <;> omega
 simp [dV, rd_at0, rdN_at0, hw2n, e1, e2, List.append_assoc]
 refine DW_loop (fun kk fr st => ∃ (i : Nat) (h : List O) (uv : Value), i + kk = N ∧ st = ⟨h, h0.length⟩ ∧ LkI h0 h a n c L N uv (List.replicate N 0) [] 0 0 ∧ OwnS h (h0.length + 4) uv i (intsC (idL i)) 3 1 ∧
  get fr 1 = .pointer (some ⟨h0.length, 0, none⟩) ∧ get fr 3 = .int .i64 N ∧ get fr 4 = .pointer (some ⟨h0.length + 3, 0, none⟩) ∧ get fr 21 = .int .i64 N ∧ get fr 22 = .int .i64 i) ?_ (k := N) ?_
 ·rintro kk fr st ⟨i, h, uv, hik, rfl, hI, hu, g1, g3, g4, g21, g22⟩
  have b3 := hI.lk
  unfold AtB linkC at b3
  have hl3 := (List.getElem?_eq_some_iff.1 b3).1
  have hmin : min h0.length (h0.length + 3) = h0.length := by omega
  by_cases hi : i < N
  ·have hw : IntKind.i64.wrap ((i : Int) + 1) = (i : Int) + 1 := by rw [w64_id] <;> omega
   have hu2 : OwnS (h ++ [.cells [.int .i64 i] 3 (some 0)]) (h0.length + 4) uv i (intsC (idL i)) 3 1 := hu.ext (Ext.snoc _ _)
   have hread : readSlice (h ++ [.cells [.int .i64 i] 3 (some 0)]) 1 1 (some ⟨h.length, 0, none⟩) = some [.int .i64 i] := by simp [readSlice, rdN_at0]
   obtain ⟨b', H4, f4, happ, hb', hown, hf1, hf2, hL4, K4⟩ := append_S (fl := h0.length) (c := 1) (bytes := 8) hu2 hread (by simp) (by simp) (by simp; omega) (by simp only [roomMax]; omega) (by omega)
   obtain rfl : f4 = h0.length := by omega
   have hne : ∀ (b : Nat), b < h0.length + 4 → ∀ n' c', uv ≠ .slice (some ⟨b, 0, none⟩) n' c' := fun b hb n' c' e => by
    rcases hu.2 with ⟨h1, _⟩ | ⟨b2, s2, h1, h2, _⟩
    ·rw [e] at h1; cases h1
    ·rw [e] at h1
     simp only [Value.slice.injEq, Option.some.injEq, Addr.mk.injEq] at h1
     omega
   have hI4 : LkI h0 H4 a n c L N uv (List.replicate N 0) [] 0 0 := ⟨fun b o hb => K4 b o (app_of (hI.sub b o hb) _) (hne _ (by have := (List.getElem?_eq_some_iff.1 hb).1; omega)),
    K4 _ _ (app_of hI.dg _) (hne _ (by omega)), K4 _ _ (app_of hI.ar _) (hne _ (by omega)), K4 _ _ (app_of hI.mp _) (hne _ (by omega)), K4 _ _ (app_of hI.lk _) (hne _ (by omega))⟩
   have k3 := hI4.lk
   unfold AtB linkC at k3
   simp [g1, g3, g4, g21, g22, hi, rd_def, b3, happ, wrN_def, k3, hw, hmin, -List.length_append]
   refine ⟨kk - 1, by omega, i + 1, by omega, _, hI4.setL, ?_, by omega⟩
   have : OwnS H4 (h0.length + 4) (.slice (some ⟨b', 0, none⟩) (i + 1) (i + 1)) (i + 1) (intsC (idL (i + 1))) 3 1 := by rw [idL_succ]; simpa [intsC] using hown
   refine this.keep fun b s' e1 e2 => set_ne e2 ?_
   simp at e1
   have := (hown.at_).1
   omega
  ·have hin : i = N := by omega
   subst hin
   have b0 := hI.dg
   unfold AtB at b0
   obtain ⟨ub, su, hub⟩ : ∃ ub su, 0 < i → uv = .slice (some ⟨ub, 0, none⟩) i i ∧ h0.length + 4 ≤ ub ∧ h[ub]? = some (.cells (intsC (idL i)) 3 (some su)) := by
    rcases hu.2 with ⟨_, h1⟩ | ⟨b, s', h1, h2, h3, _⟩
    ·exact ⟨0, 0, fun h => by omega⟩
    ·exact ⟨b, s', fun _ => ⟨h1, h2, h3⟩⟩
   simp [g1, g3, g4, g21, g22, rd_def, b0]
   refine DW_loop (fun kk fr st => ∃ (j : Nat) (h : List O) (up : List Int), j + kk = n ∧ st = ⟨h, h0.length⟩ ∧ LkI h0 h a n c L i uv (List.replicate i 0) ((lE G.X s j).map (entG kcII)) (2 * j) 0 ∧
    (0 < i → AtB h ub (.cells (intsC up) 3 (some su)) ∧ UF (archR G.X j) i up) ∧
    get fr 1 = .pointer (some ⟨h0.length, 0, none⟩) ∧ get fr 3 = .int .i64 i ∧ get fr 4 = .pointer (some ⟨h0.length + 3, 0, none⟩) ∧ get fr 39 = .slice a n c ∧ get fr 40 = .int .i64 n ∧ get fr 41 = .int .i64 j) ?_ (k := n) ?_
   ·clear g1 g3 g4 g21 g22 b0 b3 hl3 hi hu hik hI
    rintro kk fr st ⟨j, h, up, hjk, rfl, hI, hU, g1, g3, g4, g39, g40, g41⟩
    by_cases hj : j < n
    ·have hw : IntKind.i64.wrap ((j : Int) + 1) = (j : Int) + 1 := by rw [w64_id] <;> omega
     obtain ⟨hub1, hub2, _⟩ := hub (by omega)
     obtain ⟨hU1, hU2⟩ := hU (by omega)
     unfold AtB at hU1
     obtain ⟨xb, xo, hxa, hxr⟩ := hx
     obtain rfl := hxa (by omega)
     have hcr : rdN h xb (xo + j * 5) 5 = some (crossC (x j) (s j)) := hI.sub.rdN (hxr j hj)
     rw [rdN_def] at hcr
     simp only [crossC] at hcr
     rw [hX j 0 hj (by omega), hX j 1 hj (by omega), hX j 2 hj (by omega), hX j 3 hj (by omega)] at hcr
     obtain ⟨H, hH⟩ : ∃ H, H = h ++ [O.cells [.int .i64 (G.X j 0), .int .i64 (G.X j 1), .int .i64 (G.X j 2), .int .i64 (G.X j 3), .int .i64 (s j)] 107 (some 0)] := ⟨_, rfl⟩
     have hpc : H[h.length]? = some (O.cells [.int .i64 (G.X j 0), .int .i64 (G.X j 1), .int .i64 (G.X j 2), .int .i64 (G.X j 3), .int .i64 (s j)] 107 (some 0)) := by rw [hH, app_at0]; rfl
     have hlH : H.length = h.length + 1 := by rw [hH]; simp
     have hIH := hI.app [O.cells [.int .i64 (G.X j 0), .int .i64 (G.X j 1), .int .i64 (G.X j 2), .int .i64 (G.X j 3), .int .i64 (s j)] 107 (some 0)]
     rw [← hH] at hIH
     have hUH : H[ub]? = some (.cells (intsC up) 3 (some su)) := by rw [hH]; exact app_of hU1 _
     have hubl := (List.getElem?_eq_some_iff.1 hU1).1
     have k3 := hIH.lk
     unfold AtB linkC at k3
     have hjn := joinW_ hE (h := H) (pl := h0.length + 3) (by rw [rd_def, k3, hub1]; rfl) hUH hU2 (hXlt j 1 hj (by omega)) (hXlt j 3 hj (by omega))
     obtain ⟨up', hup'⟩ : ∃ up', up' = up.set (max (archR G.X j (G.X j 1)) (archR G.X j (G.X j 3))) ((min (archR G.X j (G.X j 1)) (archR G.X j (G.X j 3)) : Nat) : Int) := ⟨_, rfl⟩
     have hU2' := hU2.join (hXlt j 1 hj (by omega)) (hXlt j 3 hj (by omega))
     rw [← hup'] at hjn hU2'
     obtain ⟨H2, hH2⟩ : ∃ H2, H2 = H.set ub (.cells (intsC up') 3 (some su)) := ⟨_, rfl⟩
     rw [← hH2] at hjn
     have hl2 : H2.length = h.length + 1 := by rw [hH2, List.length_set, hlH]
     have hI2 := hIH.set hub2 (.cells (intsC up') 3 (some su))
     rw [← hH2] at hI2
     have hjd : joined ⟨H, h0.length⟩ ⟨H2, ub⟩ = ⟨H2, h0.length⟩ := by simp [joined, hlH]; omega
     have hpc2 : H2[h.length]? = some (O.cells [.int .i64 (G.X j 0), .int .i64 (G.X j 1), .int .i64 (G.X j 2), .int .i64 (G.X j 3), .int .i64 (s j)] 107 (some 0)) := by rw [hH2]; exact set_ne hpc (by omega)
     have hm2 := hI2.mp
     unfold AtB at hm2
     have k32 := hI2.lk
     unfold AtB linkC at k32
     have hfr1 : ∀ y ∈ lE G.X s j, (j, 0) ≠ y.1 := fun y hy e => by have := lE_lt y hy; rw [← e] at this; simp at this
     obtain ⟨H3, hH3⟩ : ∃ H3, H3 = H2.set (h0.length + 2) (.map ((lE G.X s j ++ [((j, 0), Value.int .i64 (G.X j 0), 2 * j)]).map (entG kcII)) (2 * j + 1)) := ⟨_, rfl⟩
     have hup1 : updS [some .i64, some .i64] true ⟨H2, h0.length⟩ (.map (some (h0.length + 2))) (.agg #[.int .i64 j, .int .i64 0]) (.int .i64 (G.X j 0)) = some (.val undef, ⟨H3, h0.length⟩) := by
      have := updS_fresh keyII (f := h0.length) hm2 hfr1 (.int .i64 (G.X j 0))
      rw [show min h0.length (h0.length + 2) = h0.length by omega, ← hH3] at this
      exact this
     have hI3 : LkI h0 H3 (some ⟨xb, xo, none⟩) n c L i uv (List.replicate i 0) ((lE G.X s j ++ [((j, 0), Value.int .i64 (G.X j 0), 2 * j)]).map (entG kcII)) (2 * j + 1) 0 := by rw [hH3]; exact hI2.setM
     have hpc3 : H3[h.length]? = some (O.cells [.int .i64 (G.X j 0), .int .i64 (G.X j 1), .int .i64 (G.X j 2), .int .i64 (G.X j 3), .int .i64 (s j)] 107 (some 0)) := by
      rw [hH3]; exact set_ne hpc2 (by have := hI.lk; unfold AtB at this; have := (List.getElem?_eq_some_iff.1 this).1; omega)
     have hm3 := hI3.mp
     unfold AtB at hm3
     have k33 := hI3.lk
     unfold AtB linkC at k33
     have hq : inP (s j) = 1 ∨ inP (s j) = 3 := by unfold inP; split <;> simp
     have hfr2 : ∀ y ∈ lE G.X s j ++ [((j, 0), Value.int .i64 (G.X j 0), 2 * j)], (j, inP (s j)) ≠ y.1 := fun y hy e => by
      rcases List.mem_append.1 hy with hy | hy
      ·have := lE_lt y hy; rw [← e] at this; simp at this
      ·simp at hy; rw [hy] at e; simp at e; omega
     obtain ⟨H4, hH4⟩ : ∃ H4, H4 = H3.set (h0.length + 2) (.map ((lE G.X s (j + 1)).map (entG kcII)) (2 * (j + 1))) := ⟨_, rfl⟩
     have hup2 : updS [some .i64, some .i64] true ⟨H3, h0.length⟩ (.map (some (h0.length + 2))) (.agg #[.int .i64 j, .int .i64 (inP (s j) : Nat)]) (.int .i64 (G.X j (inP (s j)))) = some (.val undef, ⟨H4, h0.length⟩) := by
      have := updS_fresh keyII (f := h0.length) hm3 hfr2 (.int .i64 (G.X j (inP (s j))))
      rw [show min h0.length (h0.length + 2) = h0.length by omega] at this
      rw [hH4]
      exact this
     have hb2 : ¬ ub < h0.length := by omega
     have hsl : h0.length + 3 < h.length := by have := hI.lk; unfold AtB at this; exact (List.getElem?_eq_some_iff.1 this).1
     have hmin2 : min h0.length h.length = h0.length := by omega
     have hI4 : LkI h0 H4 (some ⟨xb, xo, none⟩) n c L i uv (List.replicate i 0) ((lE G.X s (j + 1)).map (entG kcII)) (2 * (j + 1)) 0 := by rw [hH4]; exact hI3.setM
     have hU4 : AtB H4 ub (.cells (intsC up') 3 (some su)) := by
      unfold AtB
      rw [hH4, hH3, hH2]
      exact set_ne (set_ne (set_self hUH) (by omega)) (by omega)
     rcases hS.sign j hj with hs1 | hs1
     all_goals
      simp only [hs1] at hH hpc hpc2 hpc3
      simp only [hs1, inP] at hup2
      simp at hup2
      simp [g1, g3, g4, g39, g40, g41, hj, rdN_def, rd_def, hcr, hmin2, wrN_at0, set_at0, hs1, ← hH, ← hlH, hpc, DC_of hjn, hjd, bit, hpc2, k32, step_updS, hup1, hpc3, k33, hup2, hw]
      exact ⟨kk - 1, by omega, j + 1, by omega, hI4, ⟨up', fun _ => ⟨hU4, hU2'⟩⟩, by omega⟩
    ·have hjn : j = n := by omega
     subst hjn
     have hUr : 0 < i → AtB h ub (.cells (intsC up) 3 (some su)) ∧ UF (arR G) i up := by
      have : arR G = archR G.X j := by unfold arR; rw [hGn]
      rw [this]; exact hU
     simp [g1, g3, g4, g39, g40, g41]
     refine DW_loop (fun kk fr st => ∃ (m : Nat) (h : List O) (ar : List Int), m + kk = i ∧ st = ⟨h, h0.length⟩ ∧ LkI h0 h a j c L i uv ar ((lE G.X s j).map (entG kcII)) (2 * j) (cntR (arR G) m) ∧
      (0 < i → AtB h ub (.cells (intsC up) 3 (some su))) ∧ ar.length = i ∧ (∀ q, q < m → nth ar q = arN G q) ∧
      get fr 1 = .pointer (some ⟨h0.length, 0, none⟩) ∧ get fr 4 = .pointer (some ⟨h0.length + 3, 0, none⟩) ∧ get fr 80 = .int .i64 i ∧ get fr 81 = .int .i64 m) ?_ (k := i) ?_
     ·clear g1 g3 g4 g39 g40 g41 hj hI hU hjk
      rintro kk fr st ⟨m, h, ar, hmk, rfl, hI, hua, hal, har, g1, g4, g80, g81⟩
      have k3 := hI.lk
      unfold AtB linkC at k3
      have hcl := cntP_le (fun b => arR G b = b) m
      have hcl' : cntR (arR G) m ≤ m := hcl
      by_cases hm : m < i
      ·have hw : IntKind.i64.wrap ((m : Int) + 1) = (m : Int) + 1 := by rw [w64_id] <;> omega
       obtain ⟨hub1, hub2, _⟩ := hub (by omega)
       have hua1 := hua (by omega)
       unfold AtB at hua1
       have hrt := root_ hE (h := h) (pl := h0.length + 3) (by rw [rd_def, k3, hub1]; rfl) hua1 (hUr (by omega)).2 hm
       have hrm := (arR_rep G).le m
       have b1 := hI.ar
       unfold AtB at b1
       have hm1 : m + 1 ≤ i := by omega
       have hmin1 : min h0.length (h0.length + 1) = h0.length := by omega
       have hmin3 : min h0.length (h0.length + 3) = h0.length := by omega
       by_cases hr : arR G m = m
       ·obtain ⟨H, hH⟩ : ∃ H, H = h.set (h0.length + 1) (.cells (intsC (ar.set m (cntR (arR G) m))) 3 (some 0)) := ⟨_, rfl⟩
        have hIH := hI.setA (ar' := ar.set m (cntR (arR G) m))
        rw [← hH] at hIH
        have k3' := hIH.lk
        unfold AtB linkC at k3'
        have hwc : IntKind.i64.wrap ((cntR (arR G) m : Int) + 1) = (cntR (arR G) m : Int) + 1 := by rw [w64_id] <;> omega
        simp [g1, g4, g80, g81, hm, DC_of hrt, hr, rd_def, k3, hw, bit, wrN_def, b1, hal, hm1, intsC_set, hmin1, ← hH, k3', hwc, hmin3]
        refine ⟨kk - 1, by omega, m + 1, by omega, ar.set m (cntR (arR G) m), ?_, fun _ => ?_, by simp [hal], fun q hq => ?_, by omega⟩
        ·have := hIH.setL (uv' := uv) (cnt' := (cntR (arR G) (m + 1) : Int))
         rw [cntR_succ, if_pos hr] at this ⊢
         exact this
        ·rw [hH]; exact set_ne (set_ne hua1 (by omega)) (by omega)
        ·rw [nth_set (by omega)]
         by_cases e : q = m
         ·rw [if_pos e, e]; unfold arN; rw [hr]
         ·rw [if_neg e]; exact har q (by omega)
       ·have hlt : arR G m < m := by omega
        have hlt2 : arR G m < i := by omega
        have hlt3 : arR G m < ar.length := by omega
        have hv := har _ hlt
        have hne : ¬ ((arR G m : Nat) : Int) = m := by omega
        simp [g1, g4, g80, g81, hm, DC_of hrt, hr, rd_def, k3, hw, bit, wrN_def, b1, hal, hm1, intsC_set, hmin1, hlt2, intsC_get hlt3, hv, hne]
        refine ⟨kk - 1, by omega, m + 1, by omega, ar.set m (arN G (arR G m)), ?_, fun _ => ?_, by simp [hal], fun q hq => ?_, by omega⟩
        ·have := hI.setA (ar' := ar.set m (arN G (arR G m)))
         rw [cntR_succ, if_neg hr]
         exact this
        ·exact set_ne hua1 (by omega)
        ·rw [nth_set (by omega)]
         by_cases e : q = m
         ·rw [if_pos e, e]; unfold arN; rw [(arR_rep G).idem]
         ·rw [if_neg e]; exact har q (by omega)
      ·have hmi : m = i := by omega
       subst hmi
       have b0 := hI.dg
       unfold AtB at b0
       have hmin3 : min h0.length (h0.length + 3) = h0.length := by omega
       have hwc : IntKind.i64.wrap ((cntR (arR G) m : Int) + L) = (cntR (arR G) m : Int) + L := by rw [w64_id] <;> omega
       obtain ⟨H, hH⟩ : ∃ H, H = h.set (h0.length + 3) (.cells (linkC uv a j c L (.slice (some ⟨h0.length + 1, 0, none⟩) m m) (cntR (arR G) m + L) (.slice none 0 0) 0 (.map (some (h0.length + 2)))) 170 (some 0)) := ⟨_, rfl⟩
       have hIH := hI.setL (uv' := uv) (cnt' := (cntR (arR G) m : Int) + L)
       rw [← hH] at hIH
       simp only [linkC] at hH
       have b0' := hIH.dg
       unfold AtB at b0'
       have hcp := componentsP_ hE (c := c) (hx.sub hIH.sub) hk
       simp only [dV] at hcp
       simp [g1, g4, g80, g81, rd_def, k3, b0, hwc, bit, wrN_def, hmin3, ← hH, rdN_def, b0']
       refine hcp.imp ?_
       rintro o ⟨h2, f2⟩ ⟨cb, k, xs, rfl, hcb, hf2, hs2, hxs, hO, hk2⟩
       simp only at hf2 hs2 hxs
       have k3' := hs2 _ _ hIH.lk
       unfold linkC at k3'
       have hl3 := (List.getElem?_eq_some_iff.1 k3').1
       simp [g4, joined_fl, hf2, wrN_def, k3', hmin3, List.getElem?_set_self hl3, endK_ret]
       unfold pairQ back
       rw [if_neg (by simp [Out.scalar, scalar, flat1, flat])]
       have hHl := hIH.lk
       unfold AtB at hHl
       have hH3 := (List.getElem?_eq_some_iff.1 hHl).1
       have hs02 : ∀ (b : Nat) (o : O), H[b]? = some o → b ≠ h0.length + 3 → (h2.set (h0.length + 3) (.cells [uv, .slice a j c, .int .i64 L, .slice (some ⟨h0.length + 1, 0, none⟩) m m, .int .i64 (cntR (arR G) m + L), .slice (some ⟨cb, 0, none⟩) (2 * j) (2 * j), .int .i64 (k + L), .map (some (h0.length + 2))] 170 (some 0)))[b]? = some o := fun b o hb hne => set_ne (hs2 b o hb) hne
       refine ⟨h0.length + 3, rfl, by omega, Nat.le_refl _, fun b o hb => ?_, k, xs, uv, a, c, h0.length + 1, cb, h0.length + 2, ?_, ?_, ?_, ?_, ?_, hO, hk2⟩
       ·have := (List.getElem?_eq_some_iff.1 hb).1
        exact hs02 b o (hIH.sub b o hb) (by omega)
       ·rw [← hGe, show arC G = cntR (arR G) m from by unfold arC; rw [hGn, hN], ← hN]
        exact set_self k3'
       ·exact hx.sub fun b o hb => by
         have := (List.getElem?_eq_some_iff.1 hb).1
         exact hs02 b o (hIH.sub b o hb) (by omega)
       ·have := hs02 _ _ hIH.ar (by omega)
        rw [← hGe, show arL G = ar from (eq_tabL (by rw [hGn]; omega) (fun q hq => by rw [har q (by rw [hGn] at hq; omega)])).symm]
        exact this
       ·exact set_ne hxs (by omega)
       ·rw [← hGe]; exact hs02 _ _ hIH.mp (by omega)
     ·exact ⟨0, h, List.replicate i 0, by omega, rfl, hI, fun h0' => (hUr h0').1, by simp, fun q hq => by omega, by simp [g1, g4]⟩
   ·refine ⟨0, h, idL i, by omega, rfl, hI, fun h0' => ⟨(hub h0').2.2, UF.start i⟩, by simp [g1, g3, g4]⟩
 ·refine ⟨0, _, .slice none 0 0, by omega, rfl, ⟨(Sub.refl h0).app _, ?_, ?_, ?_, ?_⟩, OwnS.nil _ _ _ _, by simp⟩
  ·unfold AtB; rw [app_at0]; rfl
  ·unfold AtB; rw [app_at]; simp [rep, intsC]
  ·unfold AtB; rw [app_at]; rfl
  ·unfold AtB; rw [app_at]; rfl
end Go.Proofs.Ytjlkndkedknocaa
namespace Go.Ai
theorem Ints.sub {h h' : List O} {v : Value} {xs : List Int} (hc : Ints h v xs) (e : ∀ (b : Nat) (o : O), h[b]? = some o → h'[b]? = some o) : Ints h' v xs := by
 obtain ⟨a, b, o, c, h1, h2, h3, h4⟩ := hc
 exact ⟨a, b, o, c, h1, h2, fun i hi => Sub.rd e (h3 i hi), h4⟩
theorem Mat.sub {h h' : List O} {v : Value} {A : List (List Int)} (hc : Mat h v A) (e : ∀ (b : Nat) (o : O), h[b]? = some o → h'[b]? = some o) : Mat h' v A := by
 obtain ⟨a, b, o, c, vs, h1, h2, h3, h4⟩ := hc
 exact ⟨a, b, o, c, vs, h1, h2, fun i hi => ⟨Sub.rd e (h3 i hi).1, (h3 i hi).2.sub e⟩, h4⟩
theorem orb_unique {N k k' : Nat} {f : Nat → Nat} {xs xs' : List Int} (h : OrbI N f N k xs) (h' : OrbI N f N k' xs') : xs = xs' ∧ k = k' := by
 obtain ⟨e1, e2⟩ := h.numb.unique h'.numb
 refine ⟨?_, e2⟩
 apply List.ext_getElem (by rw [h.len, h'.len])
 intro j h1 h2
 have hj : j < N := by rw [← h.len]; exact h1
 have e := e1 j hj
 have d1 := h.done j hj
 have d2 := h'.done j hj
 rw [← nth_eq h1, ← nth_eq h2]
 omega
end Go.Ai
namespace Go.Proofs.Ytjlkndkedknocaa
open Go Go.Ai
attribute [local instance] Classical.propDecidable
noncomputable def cpX (G : Dg) : List Int × Nat := if h : ∃ p : List Int × Nat, OrbI (2 * G.n) (nx G) (2 * G.n) p.2 p.1 then h.choose else ([], 0)
noncomputable def cpL (G : Dg) : List Int := (cpX G).1
noncomputable def cpK (G : Dg) : Nat := (cpX G).2
theorem cp_eq {G : Dg} {k : Nat} {xs : List Int} (h : OrbI (2 * G.n) (nx G) (2 * G.n) k xs) : xs = cpL G ∧ k = cpK G := by
 have hx : ∃ p : List Int × Nat, OrbI (2 * G.n) (nx G) (2 * G.n) p.2 p.1 := ⟨(xs, k), h⟩
 have hs := hx.choose_spec
 have e : cpX G = hx.choose := dif_pos hx
 unfold cpL cpK
 rw [e]
 exact orb_unique h hs
noncomputable def fstA (G : Dg) (k : Int) : Int := firstI (fun j => decide (nth (cpL G) j = k)) (2 * G.n)
noncomputable def merD (G : Dg) (k : Int) : Int := if 0 ≤ fstA G k then arN G (fstA G k).toNat + 1 else arC G - cpK G + k + 1
theorem fstA_lt {G : Dg} {k : Int} : fstA G k < 2 * G.n ∧ -1 ≤ fstA G k := by
 unfold fstA
 rcases firstI_cases (fun j => decide (nth (cpL G) j = k)) (2 * G.n) with ⟨i, h1, _, _, h2⟩ | ⟨_, h2⟩ <;> omega
def LnkP (h : List O) (pl n : Nat) (x : Nat → Nat → Int) (s : Nat → Int) (L : Int) : Prop := LinkP h pl n x s L (cpK (dgOf n x s L)) (cpL (dgOf n x s L))
theorem LinkP.canon {h : List O} {pl n k : Nat} {x : Nat → Nat → Int} {s : Nat → Int} {L : Int} {xs : List Int} (hl : LinkP h pl n x s L k xs) : LnkP h pl n x s L := by
 have hl' := hl
 obtain ⟨uv, xa, xc, ab, cb, mb, h1, h2, h3, h4, h5, hO, hk⟩ := hl'
 obtain ⟨e1, e2⟩ := cp_eq (G := dgOf n x s L) hO
 unfold LnkP
 rw [← e1, ← e2]; exact hl
theorem LnkP.sub {h h' : List O} {pl n : Nat} {x : Nat → Nat → Int} {s : Nat → Int} {L : Int} (hl : LnkP h pl n x s L) (e : Sub h h') : LnkP h' pl n x s L := LinkP.sub hl e
variable {E : Env} (hE : OE E)
include hE
theorem newLinkC_ {h0 : List O} {a : Option Addr} {n c : Nat} {x : Nat → Nat → Int} {s : Nat → Int} {L : Int} (hx : CrossP h0 a n x s) (hk : kindD n x s L = 0) :
  DC E 130 [dV a n c L] ⟨h0, h0.length⟩ fun o st' => ∃ pl : Nat, o = .ret (.pointer (some ⟨pl, 0, none⟩)) ∧ h0.length ≤ pl ∧ h0.length ≤ st'.fl ∧ Sub h0 st'.h ∧ LnkP st'.h pl n x s L :=
 (newLink_ hE hx hk).imp fun o st' ⟨pl, k, xs, h1, h2, h3, h4, h5⟩ => ⟨pl, h1, h2, h3, h4, h5.canon⟩
theorem generator_ {h : List O} {pl n : Nat} {x : Nat → Nat → Int} {s : Nat → Int} {L : Int} (hl : LnkP h pl n x s L) (hn : n ≤ 200) {i : Nat} (hi : i < 2 * n) :
  DR E 149 [.pointer (some ⟨pl, 0, none⟩), .int .i64 i] ⟨h, h.length⟩ (.ret (.int .i64 (arN (dgOf n x s L) i + 1))) ⟨h, h.length⟩ := by
 refine hE.fn (body := rb149) rfl ?_
 unfold rb149
 obtain ⟨uv, xa, xc, ab, cb, mb, h1, h2, h3, h4, h5, hO, hk⟩ := hl
 unfold linkC at h1
 have hi' : (i : Int) < 2 * n := by omega
 have hG : (dgOf n x s L).n = n := rfl
 have hlen : i < (arL (dgOf n x s L)).length := by unfold arL; rw [tabL_length, hG]; exact hi
 have hv : nth (arL (dgOf n x s L)) i = arN (dgOf n x s L) i := tabL_nth (by rw [hG]; exact hi)
 have hlt := arN_lt (G := dgOf n x s L) (a := i) (by rw [hG]; exact hi)
 have hle := arC_le (dgOf n x s L)
 rw [hG] at hle
 have hw : IntKind.i64.wrap ((arN (dgOf n x s L) i : Int) + 1) = (arN (dgOf n x s L) i : Int) + 1 := by rw [w64_id] <;> omega
 simp [rd_def, h1, hi, hi', h3, intsC_get hlen, hv, hw]
theorem indexI_ {h : List O} {b n c : Nat} {xs : List Int} {v : Int} {el : TypeId} {own : Option Nat} (hb : h[b]? = some (.cells (intsC xs) el own)) (hn : xs.length = n) (hlt : n < 1000000) :
  DR E 211 [.slice (some ⟨b, 0, none⟩) n c, .int .i64 v] ⟨h, h.length⟩ (.ret (.int .i64 (firstI (fun j => decide (nth xs j = v)) n))) ⟨h, h.length⟩ := by
 refine hE.fn (body := rb211) rfl ?_
 unfold rb211
 simp
 refine DW_loop (fun kk fr st => ∃ (i : Nat), i + kk = n ∧ st = ⟨h, h.length⟩ ∧ (∀ j, j < i → nth xs j ≠ v) ∧ get fr 0 = .slice (some ⟨b, 0, none⟩) n c ∧ get fr 1 = .int .i64 v ∧ get fr 7 = .int .i64 n ∧ get fr 8 = .int .i64 i) ?_ (k := n) ?_
 ·rintro kk fr st ⟨i, hik, rfl, hm, g0, g1, g7, g8⟩
  by_cases hi : i < n
  ·have hw : IntKind.i64.wrap ((i : Int) + 1) = (i : Int) + 1 := by rw [w64_id] <;> omega
   have hi2 : i < xs.length := by omega
   by_cases hv : nth xs i = v
   ·have hv' : v = nth xs i := hv.symm
    have hf : firstI (fun j => decide (nth xs j = v)) n = i := firstI_found hi (by simp [hv]) (fun j hj => by simp [hm j hj])
    simp [g0, g1, g7, g8, hi, rd_def, hb, intsC_get hi2, hv', endK_ret]
    rw [hv'] at hf
    exact hf.symm
   ·have hv' : ¬ v = nth xs i := fun e => hv e.symm
    simp [g0, g1, g7, g8, hi, rd_def, hb, intsC_get hi2, hv', hw]
    refine ⟨kk - 1, by omega, i + 1, by omega, fun j hj => ?_, by omega⟩
    by_cases e : j = i
    ·rw [e]; exact hv
    ·exact hm j (by omega)
  ·have hin : i = n := by omega
   subst hin
   have hf : firstI (fun j => decide (nth xs j = v)) i = -1 := firstI_none (fun j hj => by simp [hm j hj])
   simp [g0, g1, g7, g8, endK_ret, hf]
 ·exact ⟨0, by omega, rfl, fun j h => by omega, by simp⟩
theorem first_ {h : List O} {pl n : Nat} {x : Nat → Nat → Int} {s : Nat → Int} {L : Int} (hl : LnkP h pl n x s L) (hn : n ≤ 200) (hL : 0 ≤ L ∧ L ≤ 200) {k : Int} (hk : 0 ≤ k ∧ k < cpK (dgOf n x s L) + L) :
  DR E 147 [.pointer (some ⟨pl, 0, none⟩), .int .i64 k] ⟨h, h.length⟩ (.ret (.tuple #[.int .i64 (fstA (dgOf n x s L) k), .int .i64 (merD (dgOf n x s L) k)])) ⟨h, h.length⟩ := by
 refine hE.fn (body := rb147) rfl ?_
 unfold rb147
 have hl' := hl
 obtain ⟨uv, xa, xc, ab, cb, mb, h1, h2, h3, h4, h5, hO, hk'⟩ := hl'
 unfold linkC at h1
 have hG : (dgOf n x s L).n = n := rfl
 have hi := indexI_ hE (v := k) (n := 2 * n) (c := 2 * n) h4 hO.len (by omega)
 obtain ⟨f, hf⟩ : ∃ f, f = firstI (fun j => decide (nth (cpL (dgOf n x s L)) j = k)) (2 * n) := ⟨_, rfl⟩
 have hfA : fstA (dgOf n x s L) k = f := by rw [hf]; rfl
 rw [← hf] at hi
 have hfl := fstA_lt (G := dgOf n x s L) (k := k)
 rw [hfA, hG] at hfl
 have hle := arC_le (dgOf n x s L)
 rw [hG] at hle
 unfold merD
 rw [hfA]
 by_cases h0 : 0 ≤ f
 ·obtain ⟨i, rfl⟩ : ∃ i : Nat, f = i := ⟨f.toNat, by omega⟩
  have hg := generator_ hE hl hn (i := i) (by omega)
  simp [rd_def, h1, DC_of hi, DC_of hg, endK_ret, back_scalar, Out.scalar, scalar, flat1, flat]
 ·have hf1 : f = -1 := by omega
  have hw1 : IntKind.i64.wrap ((arC (dgOf n x s L) : Int) + L - (cpK (dgOf n x s L) + L)) = (arC (dgOf n x s L) : Int) - cpK (dgOf n x s L) := by rw [w64_id] <;> omega
  have hw2 : IntKind.i64.wrap ((arC (dgOf n x s L) : Int) - cpK (dgOf n x s L) + k) = (arC (dgOf n x s L) : Int) - cpK (dgOf n x s L) + k := by rw [w64_id] <;> omega
  have hw3 : IntKind.i64.wrap ((arC (dgOf n x s L) : Int) - cpK (dgOf n x s L) + k + 1) = (arC (dgOf n x s L) : Int) - cpK (dgOf n x s L) + k + 1 := by rw [w64_id] <;> omega
  subst hf1
  simp [rd_def, h1, DC_of hi, endK_ret, hw1, hw2, hw3, back_scalar, Out.scalar, scalar, flat1, flat]
end Go.Proofs.Ytjlkndkedknocaa
namespace Go.Ai
theorem flat_len {v : Value} {a : Option Addr} {n c : Nat} (h : v = .slice a n c) (hf : flat v = true) : n = 0 := by
 subst h
 unfold flat at hf
 split at hf <;> first | rfl | (simp_all; done) | (rename_i e; cases e; rfl) | (cases hf)
theorem Mat.flat {h h' : List O} {v : Value} {A : List (List Int)} (hm : Mat h v A) (hf : Ai.flat v = true) : Mat h' v A := by
 obtain ⟨a, b, o, c, vs, h1, h2, h3, h4⟩ := hm
 have := flat_len h1 hf
 exact ⟨a, b, o, c, vs, h1, h2, fun i hi => by omega, h4⟩
theorem Ints.flat {h h' : List O} {v : Value} {A : List Int} (hm : Ints h v A) (hf : Ai.flat v = true) : Ints h' v A := by
 obtain ⟨a, b, o, c, h1, h2, h3, h4⟩ := hm
 have := flat_len h1 hf
 exact ⟨a, b, o, c, h1, h2, fun i hi => by omega, h4⟩
def MatN (h : List O) (lo : Nat) (v : Value) (A : List (List Int)) : Prop := ∀ h' : List O, (∀ (b : Nat) (o : O), lo ≤ b → h[b]? = some o → h'[b]? = some o) → Mat h' v A
theorem MatN.mat {h : List O} {lo : Nat} {v : Value} {A : List (List Int)} (k : MatN h lo v A) : Mat h v A := k h fun _ _ _ hb => hb
theorem MatN.low {h : List O} {lo lo' : Nat} {v : Value} {A : List (List Int)} (k : MatN h lo v A) (hl : lo' ≤ lo) : MatN h lo' v A := fun h' hk => k h' fun b o hb => hk b o (by omega)
end Go.Ai
namespace Go.Proofs.Ytjlkndkedknocaa
open Go Go.Ai
attribute [local instance] Classical.propDecidable
noncomputable def gen (G : Dg) (a : Nat) : Int := arN G a + 1
noncomputable def relOf (G : Dg) (i : Nat) : List Int := [-(gen G (G.X i 1)) * G.s i, gen G (G.X i 0), gen G (G.X i 1) * G.s i, -(gen G (G.X i 2))]
noncomputable def relL (G : Dg) : List (List Int) := (List.range G.n).map (relOf G)
theorem relL_length (G : Dg) : (relL G).length = G.n := by simp [relL]
theorem relL_nth {G : Dg} {i : Nat} (h : i < G.n) : nthR (relL G) i = relOf G i := by simp [relL, nthR, h]
theorem gen_le {G : Dg} (hG : GoodG G) {i q : Nat} (hi : i < G.n) (hq : q < 4) : 1 ≤ gen G (G.X i q) ∧ gen G (G.X i q) ≤ arC G := by
 have := arN_lt (hG.X i q hi hq)
 unfold gen
 omega
theorem relOf_small {G : Dg} (hG : GoodG G) {i : Nat} (hi : i < G.n) (j : Nat) : -1000 ≤ nth (relOf G i) j ∧ nth (relOf G i) j ≤ 1000 := by
 have h0 := gen_le hG hi (show 0 < 4 by omega)
 have h1 := gen_le hG hi (show 1 < 4 by omega)
 have h2 := gen_le hG hi (show 2 < 4 by omega)
 have hc := arC_le G
 have hs := hG.size
 unfold relOf
 match j with
 | 0 => rcases hG.sign i hi with e | e <;> simp [nth, e] <;> omega
 | 1 => simp [nth]; omega
 | 2 => rcases hG.sign i hi with e | e <;> simp [nth, e] <;> omega
 | 3 => simp [nth]; omega
 | j + 4 => simp [nth]
def RelsI (h : List O) (lo : Nat) (G : Dg) (i : Nat) (vs : List Value) : Prop :=
 ∀ q, q < i → ∃ b, vs[q]? = some (.slice (some ⟨b, 0, none⟩) 4 4) ∧ lo ≤ b ∧ h[b]? = some (.cells (intsC (relOf G q)) 3 (some 0))
variable {E : Env} (hE : OE E)
include hE
theorem presentation_ {h0 : List O} {pl n : Nat} {x : Nat → Nat → Int} {s : Nat → Int} {L : Int} (hl : LnkP h0 pl n x s L) (hS : Snd n x s L) :
  DC E 131 [.pointer (some ⟨pl, 0, none⟩)] ⟨h0, h0.length⟩ fun o st' => ∃ v, o = .ret (.agg #[.int .i64 (arC (dgOf n x s L) + L), v]) ∧ Sub h0 st'.h ∧ h0.length ≤ st'.fl ∧ MatN st'.h h0.length v (relL (dgOf n x s L)) := by
 refine hE.fnC (body := rb131) rfl ?_
 unfold rb131
 have hsz := hS.size
 obtain ⟨G, hGe⟩ : ∃ G, G = dgOf n x s L := ⟨_, rfl⟩
 have hG : GoodG G := by rw [hGe]; exact good_of hS
 have hGn : G.n = n := by rw [hGe]; rfl
 have hGs : G.s = s := by rw [hGe]; rfl
 have hX : ∀ i q, i < n → q < 4 → x i q = (G.X i q : Int) := fun i q hi hq => by rw [hGe]; exact sound_x hS hi hq
 have hXlt : ∀ i q, i < n → q < 4 → G.X i q < 2 * n := fun i q hi hq => by rw [← hGn]; exact hG.X i q (by rw [hGn]; exact hi) hq
 have hl' := hl
 obtain ⟨uv0, xa, xc, ab, cb, mb, k1, hx, k3, k4, k5, hO, hk'⟩ := hl'
 unfold linkC at k1
 have hk1 : ∀ l, (h0 ++ l)[pl]? = _ := fun l => app_of k1 l
 have hpl := (List.getElem?_eq_some_iff.1 k1).1
 simp [rd_def, hk1, wrN_at0, wrN_at, set_at, set_at0, List.append_assoc]
 rw [← hGe]
 refine DW_loop (fun kk fr st => ∃ (i : Nat) (h : List O) (uv : Value) (vs : List Value), i + kk = n ∧ st = ⟨h, h0.length⟩ ∧ Sub h0 h ∧ AtB h h0.length (.cells [.int .i64 0, .slice none 0 0] 81 (some 0)) ∧ AtB h (h0.length + 1) (.cells [.int .i64 (arC G + L), uv] 81 (some 0)) ∧
  OwnS h (h0.length + 2) uv i vs 34 1 ∧ RelsI h (h0.length + 2) G i vs ∧
  get fr 0 = .pointer (some ⟨pl, 0, none⟩) ∧ get fr 2 = .pointer (some ⟨h0.length, 0, none⟩) ∧ get fr 3 = .pointer (some ⟨h0.length + 1, 0, none⟩) ∧ get fr 18 = .slice xa n xc ∧ get fr 19 = .int .i64 n ∧ get fr 20 = .int .i64 i) ?_ (k := n) ?_
 ·rintro kk fr st ⟨i, h, uv, vs, hik, rfl, hsub, a2, a3, hu, hR, g0, g2, g3, g18, g19, g20⟩
  have b2 := a2
  have b3 := a3
  unfold AtB at b2 b3
  have hl3 := (List.getElem?_eq_some_iff.1 b3).1
  have hmin : min h0.length (h0.length + 1) = h0.length := by omega
  by_cases hi : i < n
  ·have hw : IntKind.i64.wrap ((i : Int) + 1) = (i : Int) + 1 := by rw [w64_id] <;> omega
   obtain ⟨xb, xo, hxa, hxr⟩ := hx
   obtain rfl := hxa (by omega)
   have hcr : rdN h xb (xo + i * 5) 5 = some (crossC (x i) (s i)) := hsub.rdN (hxr i hi)
   rw [rdN_def] at hcr
   simp only [crossC] at hcr
   rw [hX i 0 hi (by omega), hX i 1 hi (by omega), hX i 2 hi (by omega), hX i 3 hi (by omega)] at hcr
   obtain ⟨H, hH⟩ : ∃ H, H = h ++ [O.cells [.int .i64 (G.X i 0), .int .i64 (G.X i 1), .int .i64 (G.X i 2), .int .i64 (G.X i 3), .int .i64 (s i)] 107 (some 0)] := ⟨_, rfl⟩
   have hpc : H[h.length]? = some (O.cells [.int .i64 (G.X i 0), .int .i64 (G.X i 1), .int .i64 (G.X i 2), .int .i64 (G.X i 3), .int .i64 (s i)] 107 (some 0)) := by rw [hH, app_at0]; rfl
   have hlH : H.length = h.length + 1 := by rw [hH]; simp
   have hsH : Sub h0 H := by rw [hH]; exact hsub.app _
   have hg := fun q (hq : q < 4) => generator_ hE (hl.sub hsH) hsz (hXlt i q hi hq)
   rw [← hGe] at hg
   have hgv : ∀ q, q < 4 → 1 ≤ gen G (G.X i q) ∧ gen G (G.X i q) ≤ 1000 := fun q hq => by
    have h1 := gen_le hG (by rw [hGn]; exact hi) hq
    have h2 := arC_le G
    rw [hGn] at h2
    omega
   have hgq : ∀ q, q < 4 → (arN G (G.X i q) : Int) + 1 = gen G (G.X i q) := fun q hq => rfl
   have hg0 := hg 0 (by omega)
   have hg1 := hg 1 (by omega)
   have hg2 := hg 2 (by omega)
   rw [hgq 0 (by omega)] at hg0
   rw [hgq 1 (by omega)] at hg1
   rw [hgq 2 (by omega)] at hg2
   have v0 := hgv 0 (by omega)
   have v1 := hgv 1 (by omega)
   have v2 := hgv 2 (by omega)
   have hrel : relOf G i = [-(gen G (G.X i 1)) * s i, gen G (G.X i 0), gen G (G.X i 1) * s i, -(gen G (G.X i 2))] := by unfold relOf; rw [hGs]
   have w1 : IntKind.i64.wrap (IntKind.i64.wrap (-gen G (G.X i 1)) * s i) = -(gen G (G.X i 1)) * s i := by
    rcases hS.sign i hi with e | e <;> rw [e] <;> rw [w64_id (x := -_) (by omega) (by omega)] <;> rw [w64_id] <;> omega
   have w2 : IntKind.i64.wrap (gen G (G.X i 1) * s i) = gen G (G.X i 1) * s i := by
    rcases hS.sign i hi with e | e <;> rw [e] <;> rw [w64_id] <;> omega
   have w3 : IntKind.i64.wrap (-gen G (G.X i 2)) = -(gen G (G.X i 2)) := by rw [w64_id] <;> omega
   have hpc0 : H[h.length]? = some (O.cells [.int .i64 (G.X i 0), .int .i64 (G.X i 1), .int .i64 (G.X i 2), .int .i64 (G.X i 3), .int .i64 (s i)] 107 (some 0)) := hpc
   obtain ⟨H2, hH2⟩ : ∃ H2, H2 = H ++ [O.cells (intsC (relOf G i)) 3 (some 0)] := ⟨_, rfl⟩
   have hH2' : H2 = H ++ [O.cells [.int .i64 (-(gen G (G.X i 1)) * s i), .int .i64 (gen G (G.X i 0)), .int .i64 (gen G (G.X i 1) * s i), .int .i64 (-(gen G (G.X i 2)))] 3 (some 0)] := by rw [hH2, hrel]; rfl
   have hl2 : H2.length = H.length + 1 := by rw [hH2]; simp
   have b3H : H[h0.length + 1]? = some (.cells [.int .i64 (arC G + L), uv] 81 (some 0)) := by rw [hH]; exact app_of b3 _
   have hmin2 : min h0.length h.length = h0.length := by omega
   have hE2 : Ext h H2 := by rw [hH2, hH]; exact (Ext.snoc _ _).trans (Ext.snoc _ _)
   have hu2 : OwnS (H2 ++ [.cells [.slice (some ⟨H.length, 0, none⟩) 4 4] 34 (some 0)]) (h0.length + 2) uv i vs 34 1 := hu.ext (hE2.trans (Ext.snoc _ _))
   have hread : readSlice (H2 ++ [.cells [.slice (some ⟨H.length, 0, none⟩) 4 4] 34 (some 0)]) 1 1 (some ⟨H2.length, 0, none⟩) = some [.slice (some ⟨H.length, 0, none⟩) 4 4] := by simp [readSlice, rdN_at0]
   obtain ⟨b', H4, f4, happ, hb', hown, hf1, hf2, hL4, K4⟩ := append_S (fl := h0.length) (c := 1) (bytes := 24) hu2 hread (by simp) (by simp) (by simp [hl2]; omega) (by simp only [roomMax]; omega) (by omega)
   obtain rfl : f4 = h0.length := by omega
   have hne : ∀ (b : Nat), b < h0.length + 2 → ∀ n' c', uv ≠ .slice (some ⟨b, 0, none⟩) n' c' := fun b hb n' c' e => by
    rcases hu.2 with ⟨h1, _⟩ | ⟨b2, s2, h1, h2, _⟩
    ·rw [e] at h1; cases h1
    ·rw [e] at h1
     simp only [Value.slice.injEq, Option.some.injEq, Addr.mk.injEq] at h1
     omega
   have hnei : ∀ (b : Nat) (cs : List Value) (ow : Option Nat), H2[b]? = some (.cells cs 3 ow) → ∀ n' c', uv ≠ .slice (some ⟨b, 0, none⟩) n' c' := fun b cs ow hb n' c' e => by
    rcases hu.2 with ⟨h1, _⟩ | ⟨b2, s2, h1, h2, h3, _⟩
    ·rw [e] at h1; cases h1
    ·rw [e] at h1
     simp only [Value.slice.injEq, Option.some.injEq, Addr.mk.injEq] at h1
     obtain ⟨l, hl⟩ := hE2
     rw [h1.1.1, hl, app_of h3] at hb
     cases hb
   have kB : ∀ (b : Nat) (o : O), h[b]? = some o → (∀ n' c', uv ≠ .slice (some ⟨b, 0, none⟩) n' c') → H4[b]? = some o := fun b o hb hn => by
    obtain ⟨l, hl⟩ := hE2
    exact K4 b o (by rw [hl, List.append_assoc]; exact app_of hb _) hn
   have k3' := kB _ _ b3 (hne _ (by omega))
   rw [hl2] at happ
   have happ2 := happ
   simp only [hH2', List.append_assoc, List.cons_append, List.nil_append] at happ2
   simp [g0, g2, g3, g18, g19, g20, hi, rdN_def, hcr, wrN_at0, set_at0, app_at0, ← hH, ← hlH, hpc, DC_of hg0, DC_of hg1, DC_of hg2, bit, rd_def, w1, w2, w3, hmin2, b3H, happ2, wrN_def, k3', hmin, hw]
   refine ⟨kk - 1, by omega, i + 1, by omega, fun b o hb => ?_, ?_, .slice (some ⟨b', 0, none⟩) (i + 1) (i + 1), ?_, vs ++ [.slice (some ⟨H.length, 0, none⟩) 4 4], ?_, fun q hq => ?_, by omega⟩
   ·have hbl := (List.getElem?_eq_some_iff.1 hb).1
    exact set_ne (kB b o (hsub b o hb) (hne _ (by omega))) (by omega)
   ·exact set_ne (kB _ _ b2 (hne _ (by omega))) (by omega)
   ·exact set_self k3'
   ·exact hown.keep fun b s' e1 e2 => set_ne e2 (by
     simp at e1 hb'
     omega)
   ·by_cases e : q < i
    ·obtain ⟨b, r1, r2, r3⟩ := hR q e
     have hvl : vs.length = i := by have := hu.1; omega
     refine ⟨b, by rw [List.getElem?_append_left (by omega)]; exact r1, r2, set_ne (kB b _ r3 (hnei b (intsC (relOf G q)) (some 0) ?_)) (by omega)⟩
     obtain ⟨l, hl⟩ := hE2
     rw [hl]; exact app_of r3 _
    ·have hqi : q = i := by omega
     subst hqi
     have hvl : vs.length = q := by have := hu.1; omega
     have hin : H2[H.length]? = some (O.cells (intsC (relOf G q)) 3 (some 0)) := by rw [hH2, app_at0]; rfl
     refine ⟨H.length, by rw [List.getElem?_append_right (by omega), hvl]; simp, by omega, set_ne (K4 _ _ (app_of hin _) (hnei _ _ _ hin)) (by omega)⟩
  ·have hin : i = n := by omega
   subst hin
   have hne2 : ¬ h0.length + 1 = h0.length := by omega
   have b2s := fun o => set_self (x := o) b2
   have hone : one1 uv = true := by rcases hu.2 with ⟨h1, _⟩ | ⟨b, su, h1, _⟩ <;> rw [h1] <;> rfl
   simp [g0, g2, g3, g18, g19, g20, rdN_def, b3, wrN_def, b2, b2s, hone]
   unfold pairQ back
   have hvl : vs.length = i := by have := hu.1; omega
   have hM : ∀ h', (∀ (b : Nat) (o : O), h0.length + 2 ≤ b → h[b]? = some o → h'[b]? = some o) → Mat h' uv (relL G) := fun h' hk => by
    have hi200 : (relL G).length = i := by rw [relL_length, hGn]
    rcases hu.2 with ⟨h1, h2⟩ | ⟨b, su, h1, h2, h3, _⟩
    ·have : relL G = [] := List.length_eq_zero_iff.1 (by omega)
     rw [h1, this]
     exact ⟨none, 0, 0, 0, fun _ => undef, rfl, fun h => absurd h (by simp), fun i hi => absurd hi (by simp), by simp⟩
    ·refine ⟨some ⟨b, 0, none⟩, b, 0, i, fun q => (vs[q]?).getD undef, by rw [h1, hi200], fun _ => rfl, fun q hq => ?_, by omega⟩
     obtain ⟨b', r1, r2, r3⟩ := hR q (by omega)
     have h3' := hk _ _ (by omega) h3
     have r3' := hk _ _ r2 r3
     refine ⟨by rw [rd_def, h3']; simp [r1], ?_⟩
     rw [relL_nth (by omega)]
     simp only [r1, Option.getD_some]
     refine ⟨some ⟨b', 0, none⟩, b', 0, 4, rfl, fun _ => rfl, fun j hj => ?_, fun j => ?_, ?_⟩
     ·rw [rd_def, r3']
      simp only [rdO_cells, Nat.zero_add]
      exact intsC_get hj
     ·have := relOf_small hG (i := q) (by omega) j
      constructor <;> omega
     ·simp [relOf]
   have hM0 := hM h fun _ _ _ hb => hb
   split
   ·rename_i hc
    refine ⟨_, rfl, Sub.refl _, Nat.le_refl _, fun h' _ => Mat.flat hM0 ?_⟩
    simp [Out.scalar, scalar, flat1] at hc
    exact hc.2
   ·exact ⟨_, rfl, (hsub.set (Nat.le_refl _) _), Nat.le_refl _, fun h' hk => hM h' fun b o hb ho => hk b o (by omega) (set_ne ho (by omega))⟩
 ·refine ⟨0, _, .slice none 0 0, [], by omega, rfl, (Sub.refl h0).app _, ?_, ?_, OwnS.nil _ _ _ _, fun q hq => by omega, by simp⟩
  ·unfold AtB; rw [app_at0]; rfl
  ·unfold AtB; rw [app_at, hGe]; simp
end Go.Proofs.Ytjlkndkedknocaa
namespace Go.Ai
attribute [local instance] Classical.propDecidable
def invN (f : List Int) : Nat → List Int
 | 0 => List.replicate f.length 0
 | i + 1 => (invN f i).set (nth f i).toNat i
def invL (f : List Int) : List Int := invN f f.length
theorem invN_length (f : List Int) : ∀ i, (invN f i).length = f.length := by
 intro i
 induction i with
 | zero => simp [invN]
 | succ i ih => simp [invN, ih]
theorem invL_length (f : List Int) : (invL f).length = f.length := invN_length f _
def InN (n : Nat) (f : List Int) : Prop := ∀ i, i < f.length → 0 ≤ nth f i ∧ nth f i < n
structure PermL (n : Nat) (f : List Int) : Prop where
 len : f.length = n
 rng : InN n f
 inj : ∀ i j, i < j → j < n → nth f i ≠ nth f j
theorem invN_at {n : Nat} {f : List Int} (h : PermL n f) : ∀ k, k ≤ n → ∀ i, i < k → nth (invN f k) (nth f i).toNat = i := by
 intro k
 induction k with
 | zero => intro _ i hi; omega
 | succ k ih =>
  intro hk i hi
  have hl := invN_length f k
  have hlen := h.len
  have rk := h.rng k (by omega)
  have ri := h.rng i (by omega)
  simp only [invN]
  rw [nth_set (by omega)]
  by_cases e : i = k
  ·rw [e, if_pos rfl]
  ·have hne := h.inj i k (by omega) (by omega)
   rw [if_neg (by omega)]
   exact ih (by omega) i (by omega)
theorem invL_at {n : Nat} {f : List Int} (h : PermL n f) {i : Nat} (hi : i < n) : nth (invL f) (nth f i).toNat = i := by
 unfold invL
 rw [h.len]
 exact invN_at h n (Nat.le_refl _) i hi
theorem PermL.onto {n : Nat} {f : List Int} (h : PermL n f) {v : Nat} (hv : v < n) : ∃ i, i < n ∧ nth f i = v := by
 obtain ⟨i, h1, h2⟩ := Go.Proofs.Ytjlkndkedknocaa.onto n (fun i => (nth f i).toNat) (fun i hi => by have := h.rng i (by rw [h.len]; exact hi); omega) (fun i j hij hj e => by
  have a := h.rng i (by rw [h.len]; omega)
  have b := h.rng j (by rw [h.len]; omega)
  have e' : (nth f i).toNat = (nth f j).toNat := e
  exact h.inj i j hij hj (by omega)) v hv
 have := h.rng i (by rw [h.len]; exact h1)
 exact ⟨i, h1, by have h2' : (nth f i).toNat = v := h2; omega⟩
theorem PermL.inv {n : Nat} {f : List Int} (h : PermL n f) : PermL n (invL f) := by
 have hl : (invL f).length = n := by rw [invL_length, h.len]
 have key : ∀ v, v < n → ∃ i, i < n ∧ nth f i = v ∧ nth (invL f) v = i := fun v hv => by
  obtain ⟨i, h1, h2⟩ := h.onto hv
  refine ⟨i, h1, h2, ?_⟩
  have := invL_at h h1
  rw [h2] at this
  exact this
 refine ⟨hl, fun v hv => ?_, fun u v huv hv e => ?_⟩
 ·obtain ⟨i, h1, h2, h3⟩ := key v (by omega)
  rw [h3]; omega
 ·obtain ⟨i, h1, h2, h3⟩ := key u (by omega)
  obtain ⟨j, h4, h5, h6⟩ := key v hv
  rw [h3, h6] at e
  have : i = j := by omega
  subst this
  omega
def actL (A B : List (List Int)) (p : Int) (y : Int) : Int := if 0 < y then nth (nthR A (y - 1).toNat) p.toNat else nth (nthR B (-y - 1).toNat) p.toNat
def actW (A B : List (List Int)) (w : List Int) (p : Int) : Int := w.foldl (actL A B) p
def actN (A B : List (List Int)) (w : List Int) (p : Int) : Nat → Int
 | 0 => p
 | j + 1 => actL A B (actN A B w p j) (nth w j)
theorem actW_eq (A B : List (List Int)) (w : List Int) (p : Int) : actW A B w p = actN A B w p w.length := by
 have key : ∀ j, j ≤ w.length → (w.take j).foldl (actL A B) p = actN A B w p j := by
  intro j
  induction j with
  | zero => intro _; rfl
  | succ j ih =>
   intro hj
   have e : w.take (j + 1) = w.take j ++ [nth w j] := by rw [List.take_add_one, List.getElem?_eq_getElem (by omega), nth_eq (by omega)]; rfl
   rw [e, List.foldl_append, ih (by omega)]
   rfl
 have := key w.length (Nat.le_refl _)
 rw [List.take_length] at this
 exact this
def RowsOk (n : Nat) (A : List (List Int)) : Prop := ∀ k, k < A.length → (nthR A k).length = n ∧ InN n (nthR A k)
def LetOk (g : Nat) (w : List Int) : Prop := ∀ j, j < w.length → nth w j ≠ 0 ∧ -(g : Int) ≤ nth w j ∧ nth w j ≤ g
theorem actN_in {A B : List (List Int)} {w : List Int} {n : Nat} (hA : RowsOk n A) (hB : RowsOk n B) (hw : LetOk A.length w) (hl : B.length = A.length) {p : Int} (hp : 0 ≤ p ∧ p < n) : ∀ j, j ≤ w.length → 0 ≤ actN A B w p j ∧ actN A B w p j < n := by
 intro j
 induction j with
 | zero => intro _; exact hp
 | succ j ih =>
  intro hj
  have h1 := ih (by omega)
  have h2 := hw j (by omega)
  simp only [actN, actL]
  split
  ·have h3 := hA (nth w j - 1).toNat (by omega)
   exact h3.2 _ (by rw [h3.1]; omega)
  ·have h3 := hB (-nth w j - 1).toNat (by omega)
   exact h3.2 _ (by rw [h3.1]; omega)
def TrivL (A B : List (List Int)) (w : List Int) (n : Nat) : Prop := ∀ i : Nat, i < n → actW A B w i = i
theorem Ints.at {h : List O} {v : Value} {xs : List Int} (hi : Ints h v xs) : ∃ a b o c, v = .slice a xs.length c ∧ (0 < xs.length → a = some ⟨b, o, none⟩) ∧ (∀ i, i < xs.length → rdO h[b]? (o + i) = some (.int .i64 (nth xs i))) := by
 obtain ⟨a, b, o, c, h1, h2, h3, _⟩ := hi
 exact ⟨a, b, o, c, h1, h2, fun i hi => by rw [← rd_def]; exact h3 i hi⟩
theorem Mat.at {h : List O} {v : Value} {A : List (List Int)} (hm : Mat h v A) : ∃ a b o c, ∃ vs : Nat → Value, v = .slice a A.length c ∧ (0 < A.length → a = some ⟨b, o, none⟩) ∧ (∀ i, i < A.length → rdO h[b]? (o + i) = some (vs i) ∧ Ints h (vs i) (nthR A i)) := by
 obtain ⟨a, b, o, c, vs, h1, h2, h3, _⟩ := hm
 exact ⟨a, b, o, c, vs, h1, h2, fun i hi => by rw [← rd_def]; exact h3 i hi⟩
end Go.Ai
namespace Go.Proofs.Ytjlkndkedknocaa
open Go Go.Ai
attribute [local instance] Classical.propDecidable
variable {E : Env} (hE : OE E)
include hE
theorem inverse_ {h : List O} {v : Value} {f : List Int} (hv : Ints h v f) (hr : InN f.length f) (hs : f.length ≤ 100000) :
  DR E 145 [v] ⟨h, h.length⟩ (.ret (.slice (some ⟨h.length, 0, none⟩) f.length f.length)) ⟨h ++ [.cells (intsC (invL f)) 3 (some 0)], h.length⟩ := by
 refine hE.fn (body := rb145) rfl ?_
 unfold rb145
 obtain ⟨a, b, o, c, rfl, ha, hrd⟩ := hv.at
 have e1 : (f.length : Int) * 8 ≤ 140737488355328 := by omega
 have e2 : (f.length : Int) < 4611686018427387904 := by omega
 simp [e1, e2]
 refine DW_loop (fun kk fr st => ∃ (i : Nat), i + kk = f.length ∧ st = ⟨h ++ [.cells (intsC (invN f i)) 3 (some 0)], h.length⟩ ∧ get fr 3 = .slice (some ⟨h.length, 0, none⟩) f.length f.length ∧ get fr 9 = .slice a f.length c ∧ get fr 10 = .int .i64 f.length ∧ get fr 11 = .int .i64 i) ?_ (k := f.length) ?_
 ·rintro kk fr st ⟨i, hik, rfl, g3, g9, g10, g11⟩
  by_cases hi : i < f.length
  ·have hw : IntKind.i64.wrap ((i : Int) + 1) = (i : Int) + 1 := by rw [w64_id] <;> omega
   obtain rfl := ha (by omega)
   have hbl : b < h.length := by
    have := hrd i hi
    unfold rdO at this
    split at this
    ·rename_i hb; exact (List.getElem?_eq_some_iff.1 hb).1
    ·cases this
   have hrd' : ∀ l, rdO (h ++ l)[b]? (o + i) = some (.int .i64 (nth f i)) := fun l => by rw [List.getElem?_append_left hbl]; exact hrd i hi
   have hri := hr i hi
   obtain ⟨y, hy⟩ : ∃ y : Nat, nth f i = y := ⟨(nth f i).toNat, by omega⟩
   have hyl : y < f.length := by omega
   have hil := invN_length f i
   have hyl2 : y + 1 ≤ (invN f i).length := by omega
   have hiN : (invN f i).set y i = invN f (i + 1) := by simp only [invN, hy]; rfl
   simp [g3, g9, g10, g11, hi, rd_def, hrd', hy, hyl, wrN_at0, hyl2, intsC_set, set_at0, hiN, hw]
   exact ⟨kk - 1, by omega, i + 1, by omega, rfl, by omega⟩
  ·have hin : i = f.length := by omega
   subst hin
   simp [g3, g9, g10, g11, endK_ret]
   unfold pairQ back
   rw [if_neg (by simp [Out.scalar, scalar, flat1, flat])]
   exact ⟨rfl, rfl⟩
 ·exact ⟨0, by omega, by simp [rep, intsC, invN], by simp⟩
theorem isTrivial_ {h : List O} {va vb vw : Value} {A B : List (List Int)} {w : List Int} {n : Nat} (hA : Mat h va A) (hB : Mat h vb B) (hw : Ints h vw w) (rA : RowsOk n A) (rB : RowsOk n B) (hl : B.length = A.length) (hL : LetOk A.length w) (hs : A.length ≤ 100000 ∧ n ≤ 100000) :
  DR E 146 [va, vb, vw, .int .i64 n] ⟨h, h.length⟩ (.ret (.bool (decide (TrivL A B w n)))) ⟨h, h.length⟩ := by
 refine hE.fn (body := rb146) rfl ?_
 unfold rb146
 obtain ⟨aa, ab, ao, ac, avs, rfl, ha, har⟩ := hA.at
 obtain ⟨ba, bb, bo, bc, bvs, rfl, hb, hbr⟩ := hB.at
 obtain ⟨wa, wb, wo, wc, rfl, hwa, hwr⟩ := hw.at
 have hwlen : w.length < 2 ^ 62 := by obtain ⟨_, _, _, _, _, _, _, _, h5⟩ := hw; exact h5
 simp
 refine DW_loop (fun kk fr st => ∃ (i : Nat), i + kk = n ∧ st = ⟨h, h.length⟩ ∧ (∀ i', i' < i → actW A B w i' = i') ∧ get fr 0 = .slice aa A.length ac ∧ get fr 1 = .slice ba B.length bc ∧ get fr 2 = .slice wa w.length wc ∧ get fr 13 = .int .i64 n ∧ get fr 14 = .int .i64 i) ?_ (k := n) ?_
 ·rintro kk fr st ⟨i, hik, rfl, hd, g0, g1, g2, g13, g14⟩
  by_cases hi : i < n
  ·have hwi : IntKind.i64.wrap ((i : Int) + 1) = (i : Int) + 1 := by rw [w64_id] <;> omega
   simp [g0, g1, g2, g13, g14, hi]
   refine DW_loop (fun kk' fr st => ∃ (j : Nat), j + kk' = w.length ∧ st = ⟨h, h.length⟩ ∧ get fr 0 = .slice aa A.length ac ∧ get fr 1 = .slice ba B.length bc ∧ get fr 2 = .slice wa w.length wc ∧ get fr 13 = .int .i64 n ∧ get fr 14 = .int .i64 i ∧ get fr 9 = .int .i64 i ∧ get fr 10 = .int .i64 (actN A B w i j) ∧ get fr 18 = .slice wa w.length wc ∧ get fr 19 = .int .i64 w.length ∧ get fr 20 = .int .i64 j) ?_ (k := w.length) ?_
   ·clear g0 g1 g2 g13 g14
    rintro kk' fr st ⟨j, hjk, rfl, g0, g1, g2, g13, g14, g9, g10, g18, g19, g20⟩
    by_cases hj : j < w.length
    ·have hwj : IntKind.i64.wrap ((j : Int) + 1) = (j : Int) + 1 := by rw [w64_id] <;> omega
     obtain rfl := hwa (by omega)
     have hin := actN_in rA rB hL hl (p := i) (by omega) j (by omega)
     obtain ⟨p, hp⟩ : ∃ p : Nat, actN A B w i j = p := ⟨(actN A B w i j).toNat, by omega⟩
     have hlt := hL j hj
     rw [hp] at g10 hin
     by_cases hpos : 0 < nth w j
     ·obtain ⟨y, hy⟩ : ∃ y : Nat, nth w j - 1 = y := ⟨(nth w j - 1).toNat, by omega⟩
      have hwy : IntKind.i64.wrap (nth w j - 1) = y := by rw [w64_id] <;> omega
      have hyl : y < A.length := by omega
      obtain rfl := ha (by omega)
      obtain ⟨r1, r2⟩ := har y hyl
      have hrow := rA y hyl
      obtain ⟨ra, rb, ro, rc, hrv, hra, hrr⟩ := r2.at
      obtain rfl := hra (by omega)
      have hpl : p < (nthR A y).length := by omega
      rw [hrv] at r1
      have hnext : actN A B w i (j + 1) = nth (nthR A y) p := by
       simp only [actN, actL, hp]
       rw [if_pos hpos, hy]
       simp
      simp [g0, g1, g2, g13, g14, g9, g10, g18, g19, g20, hj, rd_def, hwr j hj, hpos, hwy, hyl, r1, hpl, hrr p hpl, hwj]
      exact ⟨kk' - 1, by omega, j + 1, by omega, hnext.symm, by omega⟩
     ·obtain ⟨y, hy⟩ : ∃ y : Nat, -nth w j - 1 = y := ⟨(-nth w j - 1).toNat, by omega⟩
      have hwn : IntKind.i64.wrap (-nth w j) = -nth w j := by rw [w64_id] <;> omega
      have hwy : IntKind.i64.wrap (-nth w j - 1) = y := by rw [w64_id] <;> omega
      have hyl : y < B.length := by omega
      obtain rfl := hb (by omega)
      obtain ⟨r1, r2⟩ := hbr y hyl
      have hrow := rB y hyl
      obtain ⟨ra, rb, ro, rc, hrv, hra, hrr⟩ := r2.at
      obtain rfl := hra (by omega)
      have hpl : p < (nthR B y).length := by omega
      rw [hrv] at r1
      have hnext : actN A B w i (j + 1) = nth (nthR B y) p := by
       simp only [actN, actL, hp]
       rw [if_neg hpos, hy]
       simp
      simp [g0, g1, g2, g13, g14, g9, g10, g18, g19, g20, hj, rd_def, hwr j hj, hpos, hwn, hwy, hyl, r1, hpl, hrr p hpl, hwj]
      exact ⟨kk' - 1, by omega, j + 1, by omega, hnext.symm, by omega⟩
    ·have hjw : j = w.length := by omega
     subst hjw
     rw [← actW_eq] at g10
     by_cases he : actW A B w i = i
     ·simp [g0, g1, g2, g13, g14, g9, g10, g18, g19, g20, he, hwi]
      refine ⟨kk - 1, by omega, i + 1, by omega, fun i' hi' => ?_, by omega⟩
      by_cases e : i' = i
      ·rw [e]; exact he
      ·exact hd i' (by omega)
     ·have hnt : ¬ TrivL A B w n := fun ht => he (ht i hi)
      simp [g0, g1, g2, g13, g14, g9, g10, g18, g19, g20, he, hnt, endK_ret]
   ·exact ⟨0, by omega, rfl, by simp [g0, g1, g2, g13, g14, actN]⟩
  ·have hin : i = n := by omega
   subst hin
   have ht : TrivL A B w i := hd
   simp [g0, g1, g2, g13, g14, ht, endK_ret]
 ·exact ⟨0, by omega, rfl, fun i' h => by omega, by simp⟩
end Go.Proofs.Ytjlkndkedknocaa
namespace Go.Ai
def boolsC (bs : List Bool) : List Value := bs.map .bool
def bnth (bs : List Bool) (i : Nat) : Bool := bs.getD i false
@[simp] theorem boolsC_length (bs : List Bool) : (boolsC bs).length = bs.length := by simp [boolsC]
theorem boolsC_get {bs : List Bool} {i : Nat} (hi : i < bs.length) : (boolsC bs)[i]? = some (.bool (bnth bs i)) := by simp [boolsC, hi, bnth]
@[simp] theorem boolsC_getElem {bs : List Bool} {i : Nat} (h : i < (boolsC bs).length) : (boolsC bs)[i] = .bool (bnth bs i) := by
 have h' : i < bs.length := by simpa using h
 simp [boolsC, bnth, h']
theorem boolsC_set (bs : List Bool) (i : Nat) (x : Bool) : (boolsC bs).set i (.bool x) = boolsC (bs.set i x) := by simp [boolsC, List.map_set]
theorem bnth_set {bs : List Bool} {i j : Nat} {x : Bool} (hi : i < bs.length) : bnth (bs.set i x) j = if j = i then x else bnth bs j := by
 unfold bnth
 by_cases h : j = i
 ·subst h; simp [hi]
 ·rw [if_neg h, List.getD_eq_getElem?_getD, List.getElem?_set_ne (Ne.symm h), ← List.getD_eq_getElem?_getD]
theorem bnth_rep {n i : Nat} {x : Bool} (hi : i < n) : bnth (List.replicate n x) i = x := by simp [bnth, hi]
end Go.Ai
namespace Go.Proofs.Ytjlkndkedknocaa
open Go Go.Ai
attribute [local instance] Classical.propDecidable
def MixG (G : Dg) : Prop := G.n ≠ 0 ∧ G.L = 0 ∧ (regs G).length = G.n + 2 ∧ ∀ a, a < 2 * G.n → (∃ c, c < G.n ∧ SameC G (G.X c 0) a) ∧ ∃ c, c < G.n ∧ SameC G (G.X c 1) a
variable {E : Env} (hE : OE E)
include hE
end Go.Proofs.Ytjlkndkedknocaa
namespace Go.Proofs.Ytjlkndkedknocaa
open Go Go.Ai
attribute [local instance] Classical.propDecidable
def PermB (f : List Int) : Prop := PermL f.length f ∧ 1 ≤ f.length ∧ f.length ≤ 200
def PermsA (A : List (List Int)) : Prop := ∀ i, i < A.length → (nthR A i).length = (nthR A 0).length ∧ PermB (nthR A i)
def invA (A : List (List Int)) : List (List Int) := A.map invL
def HomA (G : Dg) (A : List (List Int)) : Prop := ∀ i, i < G.n → TrivL A (invA A) (relOf G i) (nthR A 0).length
noncomputable def checkD (G : Dg) (A : List (List Int)) : Int := if (A.length : Int) = arC G + G.L then (if PermsA A then (if HomA G A then 0 else 5) else 1) else 1
theorem invA_length (A : List (List Int)) : (invA A).length = A.length := by simp [invA]
theorem invA_at {A : List (List Int)} {i : Nat} (h : i < A.length) : nthR (invA A) i = invL (nthR A i) := by simp [invA, nthR, h]
theorem PermsA.rows {A : List (List Int)} (h : PermsA A) : RowsOk (nthR A 0).length A := fun k hk => by
 obtain ⟨h1, h2, _⟩ := h k hk
 exact ⟨h1, by rw [← h1]; exact h2.rng⟩
theorem PermsA.inv {A : List (List Int)} (h : PermsA A) : RowsOk (nthR A 0).length (invA A) := fun k hk => by
 rw [invA_length] at hk
 obtain ⟨h1, h2, _⟩ := h k hk
 have := h2.inv
 rw [invA_at hk, ← h1]
 exact ⟨this.len, this.rng⟩
theorem relOf_let {G : Dg} (hG : GoodG G) {g i : Nat} (hi : i < G.n) (hg : arC G ≤ g) : LetOk g (relOf G i) := by
 intro j hj
 have h0 := gen_le hG hi (show 0 < 4 by omega)
 have h1 := gen_le hG hi (show 1 < 4 by omega)
 have h2 := gen_le hG hi (show 2 < 4 by omega)
 have hj4 : j < 4 := by simpa [relOf] using hj
 unfold relOf
 match j, hj4 with
 | 0, _ => rcases hG.sign i hi with e | e <;> simp [nth, e] <;> omega
 | 1, _ => simp [nth]; omega
 | 2, _ => rcases hG.sign i hi with e | e <;> simp [nth, e] <;> omega
 | 3, _ => simp [nth]; omega
variable {E : Env} (hE : OE E)
include hE
end Go.Proofs.Ytjlkndkedknocaa
namespace Go.Proofs.Ytjlkndkedknocaa
open Go Go.Ai
attribute [local instance] Classical.propDecidable
variable {E : Env} (hE : OE E)
include hE
theorem actR_ {h : List O} {va vw : Value} {A : List (List Int)} {w : List Int} {n p : Nat} (hA : Mat h va A) (hw : Ints h vw w) (hP : ∀ k, k < A.length → PermL n (nthR A k)) (hL : LetOk A.length w) (hs : A.length ≤ 100000 ∧ n ≤ 100000) (hp : p < n) :
  DR E 72 [va, vw, .int .i64 p] ⟨h, h.length⟩ (.ret (.int .i64 (actW A (invA A) w p))) ⟨h, h.length⟩ := by
 refine hE.fn (body := rb72) rfl ?_
 unfold rb72
 obtain ⟨aa, ab, ao, ac, avs, rfl, ha, har⟩ := hA.at
 obtain ⟨wa, wb, wo, wc, rfl, hwa, hwr⟩ := hw.at
 have hwlen : w.length < 2 ^ 62 := by obtain ⟨_, _, _, _, _, _, _, _, h5⟩ := hw; exact h5
 have rA : RowsOk n A := fun k hk => ⟨(hP k hk).len, (hP k hk).rng⟩
 have rB : RowsOk n (invA A) := fun k hk => by
  rw [invA_length] at hk
  rw [invA_at hk]
  exact ⟨(hP k hk).inv.len, (hP k hk).inv.rng⟩
 simp
 refine DW_loop (fun kk fr st => ∃ (j : Nat), j + kk = w.length ∧ st = ⟨h, h.length⟩ ∧ get fr 0 = .slice aa A.length ac ∧ get fr 2 = .int .i64 (actN A (invA A) w p j) ∧ get fr 10 = .slice wa w.length wc ∧ get fr 11 = .int .i64 w.length ∧ get fr 12 = .int .i64 j) ?_ (k := w.length) ?_
 ·rintro kk fr st ⟨j, hjk, rfl, g0, g2, g10, g11, g12⟩
  by_cases hj : j < w.length
  ·have hwj : IntKind.i64.wrap ((j : Int) + 1) = (j : Int) + 1 := by rw [w64_id] <;> omega
   obtain rfl := hwa (by omega)
   have hin := actN_in rA rB hL (invA_length A) (p := (p : Int)) (by omega) j (by omega)
   obtain ⟨q, hq⟩ : ∃ q : Nat, actN A (invA A) w p j = q := ⟨(actN A (invA A) w p j).toNat, by omega⟩
   have hlt := hL j hj
   rw [hq] at g2 hin
   by_cases hpos : 0 < nth w j
   ·obtain ⟨y, hy⟩ : ∃ y : Nat, nth w j - 1 = y := ⟨(nth w j - 1).toNat, by omega⟩
    have hwy : IntKind.i64.wrap (nth w j - 1) = y := by rw [w64_id] <;> omega
    have hyl : y < A.length := by omega
    obtain rfl := ha (by omega)
    obtain ⟨r1, r2⟩ := har y hyl
    have hrow := rA y hyl
    obtain ⟨ra, rb, ro, rc, hrv, hra, hrr⟩ := r2.at
    obtain rfl := hra (by omega)
    have hpl : q < (nthR A y).length := by omega
    rw [hrv] at r1
    have hnext : actN A (invA A) w p (j + 1) = nth (nthR A y) q := by
     simp only [actN, actL, hq]
     rw [if_pos hpos, hy]
     simp
    simp [g0, g2, g10, g11, g12, hj, rd_def, hwr j hj, hpos, hwy, hyl, r1, hpl, hrr q hpl, hwj]
    exact ⟨kk - 1, by omega, j + 1, by omega, hnext.symm, by omega⟩
   ·obtain ⟨y, hy⟩ : ∃ y : Nat, -nth w j - 1 = y := ⟨(-nth w j - 1).toNat, by omega⟩
    have hwn : IntKind.i64.wrap (-nth w j) = -nth w j := by rw [w64_id] <;> omega
    have hwy : IntKind.i64.wrap (-nth w j - 1) = y := by rw [w64_id] <;> omega
    have hyl : y < A.length := by omega
    obtain rfl := ha (by omega)
    obtain ⟨r1, r2⟩ := har y hyl
    have hrow := hP y hyl
    have hrl := hrow.len
    obtain ⟨ra, rb, ro, rc, hrv, hra, hrr⟩ := r2.at
    obtain rfl := hra (by omega)
    rw [hrv] at r1
    obtain ⟨i0, hi0, hi1⟩ := hrow.onto (v := q) (by omega)
    have hnext : actN A (invA A) w p (j + 1) = i0 := by
     simp only [actN, actL, hq]
     rw [if_neg hpos, hy]
     have := invL_at hrow hi0
     rw [hi1] at this
     rw [Int.toNat_natCast, invA_at hyl]
     exact this
    simp [g0, g2, g10, g11, g12, hj, rd_def, hwr j hj, hpos, hwj]
    refine DW_loop (fun kk' fr st => ∃ (k : Nat), k + kk' = i0 ∧ st = ⟨h, h.length⟩ ∧ get fr 0 = .slice (some ⟨ab, ao, none⟩) A.length ac ∧ get fr 2 = .int .i64 q ∧ get fr 8 = .int .i64 (nth w j) ∧ get fr 9 = .int .i64 k ∧ get fr 10 = .slice (some ⟨wb, wo, none⟩) w.length wc ∧ get fr 11 = .int .i64 w.length ∧ get fr 12 = .int .i64 j) ?_ (k := i0) ?_
    ·clear g0 g2 g10 g11 g12
     rintro kk' fr st ⟨k, hkk, rfl, g0, g2, g8, g9, g10, g11, g12⟩
     have hkl : k < (nthR A y).length := by omega
     have hwk : IntKind.i64.wrap ((k : Int) + 1) = (k : Int) + 1 := by rw [w64_id] <;> omega
     by_cases hk : k = i0
     ·subst hk
      simp [g0, g2, g8, g9, g10, g11, g12, rd_def, hwn, hwy, hyl, r1, hkl, hrr k hkl, hi1, hwj]
      exact ⟨kk - 1, by omega, j + 1, by omega, hnext.symm, by omega⟩
     ·have hne : ¬ nth (nthR A y) k = (q : Int) := fun e => by
       have := hrow.inj k i0 (by omega) hi0
       rw [e, hi1] at this
       exact this rfl
      simp [g0, g2, g8, g9, g10, g11, g12, rd_def, hwn, hwy, hyl, r1, hkl, hrr k hkl, hne, hwk]
      exact ⟨kk' - 1, by omega, k + 1, by omega, by omega⟩
    ·simp [g0, g2, g10, g11, g12]
  ·have hjw : j = w.length := by omega
   subst hjw
   simp [g0, g2, g10, g11, g12, endK_ret, ← actW_eq]
 ·exact ⟨0, by omega, rfl, by simp [actN]⟩
theorem trivialR_ {h : List O} {va vw : Value} {A : List (List Int)} {w : List Int} (hA : Mat h va A) (hw : Ints h vw w) (hP : ∀ k, k < A.length → PermL (nthR A 0).length (nthR A k)) (hL : LetOk A.length w) (hs : A.length ≤ 100000 ∧ (nthR A 0).length ≤ 100000) :
  DR E 66 [va, vw] ⟨h, h.length⟩ (.ret (.bool (decide (A.length = 0 ∨ TrivL A (invA A) w (nthR A 0).length)))) ⟨h, h.length⟩ := by
 refine hE.fn (body := rb66) rfl ?_
 unfold rb66
 have hA' := hA
 obtain ⟨aa, ab, ao, ac, avs, rfl, ha, har⟩ := hA'.at
 have hsc : ∀ b : Bool, (Out.ret (.bool b)).scalar = true := fun _ => rfl
 rcases Nat.eq_zero_or_pos A.length with h0 | h0
 ·have h0' : (A.length : Int) = 0 := by omega
  simp [h0, h0', endK_ret, back, hsc]
 ·have h0' : ¬ (A.length : Int) = 0 := by omega
  have h0n : ¬ A.length = 0 := by omega
  have h0i : (0 : Int) < A.length := by omega
  obtain rfl := ha h0
  obtain ⟨r1, r2⟩ := har 0 h0
  obtain ⟨ra, rb, ro, rc, hrv, hra, hrr⟩ := r2.at
  rw [hrv, Nat.add_zero] at r1
  obtain ⟨n, hn⟩ : ∃ n, n = (nthR A 0).length := ⟨_, rfl⟩
  rw [← hn] at hs hP r1 ⊢
  simp [h0', h0n, h0i, rd_def, r1, h0]
  refine DW_loop (fun kk fr st => ∃ (i : Nat), i + kk = n ∧ st = ⟨h, h.length⟩ ∧ (∀ j : Nat, j < i → actW A (invA A) w j = j) ∧ get fr 0 = .slice (some ⟨ab, ao, none⟩) A.length ac ∧ get fr 1 = vw ∧ get fr 12 = .int .i64 n ∧ get fr 13 = .int .i64 i) ?_ (k := n) ?_
  ·rintro kk fr st ⟨i, hik, rfl, hd, g0, g1, g12, g13⟩
   by_cases hi : i < n
   ·have hwi : IntKind.i64.wrap ((i : Int) + 1) = (i : Int) + 1 := by rw [w64_id] <;> omega
    have hac := actR_ hE hA hw hP hL hs hi
    by_cases he : actW A (invA A) w i = i
    ·rw [he] at hac
     simp [g0, g1, g12, g13, hi, DC_of hac, hwi]
     refine ⟨kk - 1, by omega, i + 1, by omega, fun j hj => ?_, by omega⟩
     by_cases e : j = i
     ·rw [e]; exact he
     ·exact hd j (by omega)
    ·have hnt : ¬ TrivL A (invA A) w n := fun ht => he (ht i hi)
     simp [g0, g1, g12, g13, hi, DC_of hac, he, hnt, endK_ret, back, hsc]
   ·have hin : i = n := by omega
    have ht : TrivL A (invA A) w n := fun j hj => hd j (by omega)
    simp [g0, g1, g12, g13, hin, ht, endK_ret, back, hsc]
  ·exact ⟨0, by omega, rfl, fun j hj => by omega, by simp⟩
end Go.Proofs.Ytjlkndkedknocaa
namespace Go.Ai
attribute [local instance] Classical.propDecidable
theorem appendEN {el : TypeId} {size bytes b o n c fl : Nat} {H : List O} {l : List Value} (hr : rdN H b o (n * size) = some l) (hn : 0 < n) (hs : 0 < size) (hall : l.all one1 = true) (hroom : n * bytes ≤ roomMax) :
  appendV el size bytes emptyS (.slice (some ⟨b, o, none⟩) n c) ⟨H, fl⟩ = some (.slice (some ⟨H.length, 0, none⟩) n n, ⟨H ++ [.cells l el (some size)], fl⟩) := by
 have hns : ¬ n * size = 0 := by
  have := Nat.mul_pos hn hs; omega
 have hrd : readSlice H size n (some ⟨b, o, none⟩) = some l := by simp only [readSlice]; rw [if_neg hns]; exact hr
 simp only [appendV, emptyS, hrd, bind, Option.bind_some, appendCells]
 rw [if_neg (by omega), if_neg (by omega), if_pos ⟨by rw [Nat.zero_add]; exact hroom, hall⟩]
 simp [readSlice, kill]
theorem append_fit {el : TypeId} {bytes b k c xb fl : Nat} {H : List O} {cs : List Value} {e : TypeId} {s : Nat} {v : Value} (hb : H[b]? = some (.cells cs e (some s))) (hk : k + 1 ≤ c) (hc : k + 1 ≤ cs.length) (hv : one1 v = true) (hx : rdN H xb 0 1 = some [v]) :
  appendV el 1 bytes (.slice (some ⟨b, 0, none⟩) k c) (.slice (some ⟨xb, 0, none⟩) 1 1) ⟨H, fl⟩ = some (.slice (some ⟨b, 0, none⟩) (k + 1) c, ⟨H.set b (.cells (cs.set k v) e (some s)), min fl b⟩) := by
 have hrd : readSlice H 1 1 (some ⟨xb, 0, none⟩) = some [v] := by simp [readSlice, hx]
 simp only [appendV, hrd, bind, Option.bind_some, appendCells]
 rw [if_neg (by omega), if_pos (by omega)]
 simp [wrN, hb, hc, hv]
def visL (n : Nat) : Nat → List Int → List (List Int)
 | 0, f => [f]
 | m + 1, f => (List.range n).flatMap fun (x : Nat) => if (x : Int) ∈ f then [] else visL n m (f ++ [(x : Int)])
def visI (n m : Nat) (f : List Int) (i : Nat) : List (List Int) := (List.range i).flatMap fun (x : Nat) => if (x : Int) ∈ f then [] else visL n m (f ++ [(x : Int)])
theorem visI_succ (n m : Nat) (f : List Int) (i : Nat) : visI n m f (i + 1) = visI n m f i ++ (if (i : Int) ∈ f then [] else visL n m (f ++ [(i : Int)])) := by
 unfold visI
 rw [List.range_succ, List.flatMap_append]
 simp
theorem visL_le (n : Nat) : ∀ m f, (visL n m f).length ≤ n ^ m := by
 intro m
 induction m with
 | zero => intro f; simp [visL]
 | succ m ih =>
  intro f
  have key : ∀ i, ((List.range i).flatMap fun (x : Nat) => if (x : Int) ∈ f then [] else visL n m (f ++ [(x : Int)])).length ≤ i * n ^ m := by
   intro i
   induction i with
   | zero => simp
   | succ i ih2 =>
    rw [List.range_succ, List.flatMap_append, List.length_append, Nat.succ_mul]
    have h2 : ([i].flatMap fun x : Nat => if (x : Int) ∈ f then [] else visL n m (f ++ [(x : Int)])).length ≤ n ^ m := by
     simp only [List.flatMap_cons, List.flatMap_nil, List.append_nil]
     split
     ·simp
     ·exact ih _
    omega
  have := key n
  rw [Nat.pow_succ, Nat.mul_comm]
  exact this
theorem visI_le (n m : Nat) (f : List Int) (i : Nat) : (visI n m f i).length ≤ i * n ^ m := by
 induction i with
 | zero => simp [visI]
 | succ i ih =>
  rw [visI_succ, List.length_append, Nat.succ_mul]
  have h2 : (if (i : Int) ∈ f then [] else visL n m (f ++ [(i : Int)])).length ≤ n ^ m := by
   split
   ·simp
   ·exact visL_le _ _ _
  omega
theorem take_nth {buf f : List Int} {k : Nat} (h : buf.take k = f) (hk : f.length = k) {i : Nat} (hi : i < k) : nth buf i = nth f i := by
 rw [← h]
 unfold nth
 rw [List.getD_eq_getElem?_getD, List.getD_eq_getElem?_getD, List.getElem?_take, if_pos hi]
end Go.Ai
namespace Go.Proofs.Ytjlkndkedknocaa
open Go Go.Ai
attribute [local instance] Classical.propDecidable
variable {E : Env} (hE : OE E)
include hE
theorem indexI2_ {h : List O} {v : Value} {xs : List Int} {y : Int} (hv : Ints h v xs) (hlt : xs.length < 1000000) :
  DR E 211 [v, .int .i64 y] ⟨h, h.length⟩ (.ret (.int .i64 (firstI (fun j => decide (nth xs j = y)) xs.length))) ⟨h, h.length⟩ := by
 refine hE.fn (body := rb211) rfl ?_
 unfold rb211
 obtain ⟨a, b, o, c, rfl, ha, hrd⟩ := hv.at
 simp
 refine DW_loop (fun kk fr st => ∃ (i : Nat), i + kk = xs.length ∧ st = ⟨h, h.length⟩ ∧ (∀ j, j < i → nth xs j ≠ y) ∧ get fr 0 = .slice a xs.length c ∧ get fr 1 = .int .i64 y ∧ get fr 7 = .int .i64 xs.length ∧ get fr 8 = .int .i64 i) ?_ (k := xs.length) ?_
 ·rintro kk fr st ⟨i, hik, rfl, hm, g0, g1, g7, g8⟩
  by_cases hi : i < xs.length
  ·have hw : IntKind.i64.wrap ((i : Int) + 1) = (i : Int) + 1 := by rw [w64_id] <;> omega
   obtain rfl := ha (by omega)
   have hr := hrd i hi
   by_cases hy : nth xs i = y
   ·have hf : firstI (fun j => decide (nth xs j = y)) xs.length = i := firstI_found hi (by simp [hy]) (fun j hj => by simp [hm j hj])
    rw [hy] at hr
    simp [g0, g1, g7, g8, hi, rd_def, hr, endK_ret, hf]
   ·have hy' : ¬ y = nth xs i := fun e => hy e.symm
    simp [g0, g1, g7, g8, hi, rd_def, hr, hy', hw]
    refine ⟨kk - 1, by omega, i + 1, by omega, fun j hj => ?_, by omega⟩
    by_cases e : j = i
    ·rw [e]; exact hy
    ·exact hm j (by omega)
  ·have hin : i = xs.length := by omega
   subst hin
   have hf : firstI (fun j => decide (nth xs j = y)) xs.length = -1 := firstI_none (fun j hj => by simp [hm j hj])
   simp [g0, g1, g7, g8, endK_ret, hf]
 ·exact ⟨0, by omega, rfl, fun j h => by omega, by simp⟩
theorem containsI_ {h : List O} {v : Value} {xs : List Int} {y : Int} (hv : Ints h v xs) (hlt : xs.length < 1000000) :
  DR E 187 [v, .int .i64 y] ⟨h, h.length⟩ (.ret (.bool (decide (y ∈ xs)))) ⟨h, h.length⟩ := by
 refine hE.fn (body := rb187) rfl ?_
 unfold rb187
 have hi := indexI2_ hE (y := y) hv hlt
 have hiff : (0 ≤ firstI (fun j => decide (nth xs j = y)) xs.length) ↔ y ∈ xs := by
  rcases firstI_cases (fun j => decide (nth xs j = y)) xs.length with ⟨i, h1, h2, _, h3⟩ | ⟨h1, h2⟩
  ·rw [h3]
   have : nth xs i = y := by simpa using h2
   exact ⟨fun _ => this ▸ nth_mem h1, fun _ => by omega⟩
  ·rw [h2]
   refine ⟨fun h => by omega, fun h => ?_⟩
   obtain ⟨j, hj, rfl⟩ := List.getElem_of_mem h
   have := h1 j hj
   rw [nth_eq hj] at this
   simp at this
 simp [DC_of hi, endK_ret, hiff]
theorem clone_ {h : List O} {b n c : Nat} {f : List Int} (hr : rdN h b 0 n = some (intsC f)) (hn : 0 < n) (hs : n ≤ 100000) :
  DR E 179 [.slice (some ⟨b, 0, none⟩) n c] ⟨h, h.length⟩ (.ret (.slice (some ⟨h.length, 0, none⟩) n n)) ⟨h ++ [.cells (intsC f) 3 (some 1)], h.length⟩ := by
 refine hE.fn (body := rb179) rfl ?_
 unfold rb179
 have hall : (intsC f).all one1 = true := by simp [intsC]
 have happ := appendEN (el := 3) (size := 1) (bytes := 8) (c := c) (fl := h.length) (by rw [Nat.mul_one]; exact hr) hn (by omega) hall (by simp only [roomMax]; omega)
 simp [happ, endK_ret]
 unfold pairQ back
 rw [if_neg (by simp [Out.scalar, scalar, flat1, flat])]
 exact ⟨rfl, rfl⟩
end Go.Proofs.Ytjlkndkedknocaa
namespace Go.Proofs.Ytjlkndkedknocaa
open Go Go.Ai
attribute [local instance] Classical.propDecidable
def PrmI (h : List O) (lo n : Nat) (vs : List Value) (Ls : List (List Int)) : Prop :=
 ∀ q, q < Ls.length → ∃ b, vs[q]? = some (.slice (some ⟨b, 0, none⟩) n n) ∧ lo ≤ b ∧ h[b]? = some (.cells (intsC (nthR Ls q)) 3 (some 1))
structure VsI (h : List O) (lo n B po k : Nat) (f : List Int) (Ls : List (List Int)) : Prop where
 buf : ∃ buf, h[B]? = some (.cells (intsC buf) 3 (some 0)) ∧ buf.length = n ∧ buf.take k = f
 out : ∃ ov vs, h[po]? = some (.cells [ov] 48 (some 0)) ∧ OwnS h lo ov Ls.length vs 34 1 ∧ PrmI h lo n vs Ls
 lo_ : lo ≤ h.length
def VisP (h : List O) (base lo n B po k : Nat) (f : List Int) (Ls : List (List Int)) (st' : St) : Prop :=
 base ≤ st'.fl ∧ h.length ≤ st'.h.length ∧ (∀ (b : Nat) (o : O), b < lo → h[b]? = some o → b ≠ po → b ≠ B → st'.h[b]? = some o) ∧ VsI st'.h lo n B po k f Ls
def visV (pn po pv : Nat) : Value := .func (.func 186) #[] #[.pointer (some ⟨pn, 0, none⟩), .pointer (some ⟨po, 0, none⟩), .pointer (some ⟨pv, 0, none⟩)]
theorem take_set_snoc {buf f : List Int} {k : Nat} {x : Int} (h : buf.take k = f) (hk : k < buf.length) : (buf.set k x).take (k + 1) = f ++ [x] := by
 apply List.ext_getElem?
 intro i
 rw [List.getElem?_take]
 have hf : f.length = k := by rw [← h, List.length_take]; omega
 by_cases hi : i < k
 ·rw [if_pos (by omega), List.getElem?_set_ne (by omega), List.getElem?_append_left (by omega), ← h, List.getElem?_take, if_pos hi]
 ·by_cases e : i = k
  ·rw [if_pos (by omega), e, List.getElem?_set_self hk, List.getElem?_append_right (by omega), hf]; simp
  ·rw [if_neg (by omega), List.getElem?_eq_none (by simp; omega)]
variable {E : Env} (hE : OE E)
include hE
theorem visit_ {n lo base B pn po pv : Nat} (hn : n ≤ 6) (h1 : base ≤ B) (h2 : base ≤ po) (h3 : base ≤ lo) (h4 : B < lo) (h5 : po < lo) (h6 : pn < lo) (h7 : pv < lo) (h8 : po ≠ B) (h9 : pn ≠ B) (h10 : pn ≠ po) (h11 : pv ≠ B) (h12 : pv ≠ po) :
  ∀ (m : Nat) {h : List O} {f : List Int} {Ls : List (List Int)}, f.length + m = n → (∀ y ∈ f, 0 ≤ y ∧ y < n) → 0 < n → Ls.length + n ^ m ≤ 1000000 →
   h[pn]? = some (.cells [.int .i64 n] 3 (some 0)) → h[pv]? = some (.cells [visV pn po pv] 226 (some 0)) → VsI h lo n B po f.length f Ls →
   DC E 186 [.slice (some ⟨B, 0, none⟩) f.length n, .pointer (some ⟨pn, 0, none⟩), .pointer (some ⟨po, 0, none⟩), .pointer (some ⟨pv, 0, none⟩)] ⟨h, h.length⟩ fun o st' => o = .ret (.tuple #[]) ∧ VisP h base lo n B po f.length f (Ls ++ visL n m f) st' := by
 intro m
 induction m with
 | zero =>
  intro h f Ls hfm hf hn0 hbd e1 e2 hI
  refine hE.fnC (body := rb186) rfl ?_
  unfold rb186
  obtain ⟨buf, hb, hbl, hbt⟩ := hI.buf
  obtain ⟨ov, vs, ho, hov, hP⟩ := hI.out
  have hlo := hI.lo_
  have hfn : f.length = n := by omega
  have hbf : buf = f := by rw [← hbt, hfn, ← hbl, List.take_length]
  subst hbf
  have hrd : rdN h B 0 n = some (intsC buf) := by
   rw [rdN_def, hb, rdNO_cells, if_pos (by simp; omega)]
   simp [List.take_of_length_le, hbl]
  have hcl := clone_ hE (c := n) hrd hn0 (by omega)
  obtain ⟨H2, hH2⟩ : ∃ H2, H2 = h ++ [O.cells (intsC buf) 3 (some 1)] := ⟨_, rfl⟩
  have hl2 : H2.length = h.length + 1 := by rw [hH2]; simp
  have hE2 : Ext h H2 := by rw [hH2]; exact Ext.snoc _ _
  have hin : H2[h.length]? = some (O.cells (intsC buf) 3 (some 1)) := by rw [hH2, app_at0]; rfl
  have hu2 : OwnS (H2 ++ [.cells [.slice (some ⟨h.length, 0, none⟩) n n] 34 (some 0)]) lo ov Ls.length vs 34 1 := hov.ext (hE2.trans (Ext.snoc _ _))
  have hread : readSlice (H2 ++ [.cells [.slice (some ⟨h.length, 0, none⟩) n n] 34 (some 0)]) 1 1 (some ⟨H2.length, 0, none⟩) = some [.slice (some ⟨h.length, 0, none⟩) n n] := by simp [readSlice, rdN_at0]
  obtain ⟨b', H4, f4, happ, hb', hown, hf1, hf2, hL4, K4⟩ := append_S (fl := h.length) (c := 1) (bytes := 24) hu2 hread (by simp) (by simp) (by simp; omega) (by simp only [roomMax]; omega) (by omega)
  have hnei : ∀ (b : Nat) (cs : List Value) (ow : Option Nat), H2[b]? = some (.cells cs 3 ow) → ∀ n' c', ov ≠ .slice (some ⟨b, 0, none⟩) n' c' := fun b cs ow hb n' c' e => by
   rcases hov.2 with ⟨h1, _⟩ | ⟨b2, s2, h1, h2, h3, _⟩
   ·rw [e] at h1; cases h1
   ·rw [e] at h1
    simp only [Value.slice.injEq, Option.some.injEq, Addr.mk.injEq] at h1
    obtain ⟨l, hl⟩ := hE2
    rw [h1.1.1, hl, app_of h3] at hb
    cases hb
  have hneH : ∀ (b : Nat), b < lo → ∀ n' c', ov ≠ .slice (some ⟨b, 0, none⟩) n' c' := fun b hb n' c' e => by
   rcases hov.2 with ⟨h1, _⟩ | ⟨b2, s2, h1, h2, h3, _⟩
   ·rw [e] at h1; cases h1
   ·rw [e] at h1
    simp only [Value.slice.injEq, Option.some.injEq, Addr.mk.injEq] at h1
    omega
  have kB : ∀ (b : Nat) (o : O), b < lo → h[b]? = some o → H4[b]? = some o := fun b o hbl hb => by
   obtain ⟨l, hl⟩ := hE2
   exact K4 b o (by rw [hl, List.append_assoc]; exact app_of hb _) (hneH b hbl)
  have k4 := kB _ _ h5 ho
  have happ2 := happ
  rw [hl2] at happ2
  simp only [hH2, List.append_assoc, List.cons_append, List.nil_append] at happ2
  rw [hfn]
  simp [rd_def, e1, ho, DC_of hcl, bit, List.append_assoc, happ2, wrN_def, k4, endK_ret]
  unfold pairQ back
  rw [if_neg (by simp; omega)]
  refine ⟨rfl, by simp only; omega, ?_, fun b o hbl hb hn1 hn2 => set_ne (kB b o hbl hb) hn1, ⟨buf, set_ne (kB _ _ h4 hb) (Ne.symm h8), hbl, by rw [← hfn]; exact hbt⟩, ?_, by simp at hL4 ⊢; omega⟩
  ·simp at hL4 ⊢; omega
  ·have hlenL : (Ls ++ visL n 0 buf).length = Ls.length + 1 := by simp [visL]
   refine ⟨_, vs ++ [.slice (some ⟨h.length, 0, none⟩) n n], set_self k4, ?_, fun q hq => ?_⟩
   ·rw [hlenL]
    exact hown.keep fun b s e1 e2 => set_ne e2 (by
     simp at e1 hb'
     omega)
   ·have hvl : vs.length = Ls.length := by have := hov.1; omega
    by_cases e : q < Ls.length
    ·obtain ⟨b, q1, q2, q3⟩ := hP q e
     have hq3 : H2[b]? = some (O.cells (intsC (nthR Ls q)) 3 (some 1)) := by rw [hH2]; exact app_of q3 _
     have hnq : nthR (Ls ++ visL n 0 buf) q = nthR Ls q := by simp [nthR, List.getElem?_append_left e]
     rw [hnq]
     exact ⟨b, by rw [List.getElem?_append_left (by omega)]; exact q1, q2, set_ne (K4 b _ (app_of hq3 _) (hnei b _ _ hq3)) (by omega)⟩
    ·have hqe : q = Ls.length := by omega
     have hnq : nthR (Ls ++ visL n 0 buf) q = buf := by simp [nthR, hqe, visL]
     rw [hnq]
     exact ⟨h.length, by rw [List.getElem?_append_right (by omega), hvl, hqe]; simp, by omega, set_ne (K4 _ _ (app_of hin _) (hnei _ _ _ hin)) (by omega)⟩
 | succ m ih =>
  intro h f Ls hfm hf hn0 hbd e1 e2 hI
  refine hE.fnC (body := rb186) rfl ?_
  unfold rb186
  have hlo := hI.lo_
  have hk : f.length < n := by omega
  have hkn : ¬ f.length = n := by omega
  have hkn' : ¬ (f.length : Int) = n := by omega
  simp [rd_def, e1, hkn, hkn']
  have hvl : visL n (m + 1) f = visI n m f n := rfl
  rw [hvl]
  refine DW_loop (fun kk fr st => ∃ (i : Nat) (h' : List O) (f' : Nat), i + kk = n ∧ st = ⟨h', f'⟩ ∧ base ≤ f' ∧ ((h' = h ∧ f' = h.length ∧ visI n m f i = []) ∨ f' < h.length) ∧ h.length ≤ h'.length ∧ (∀ (b : Nat) (o : O), b < lo → h[b]? = some o → b ≠ po → b ≠ B → h'[b]? = some o) ∧ VsI h' lo n B po f.length f (Ls ++ visI n m f i) ∧
   get fr 0 = .slice (some ⟨B, 0, none⟩) f.length n ∧ get fr 1 = .pointer (some ⟨pn, 0, none⟩) ∧ get fr 2 = .pointer (some ⟨po, 0, none⟩) ∧ get fr 3 = .pointer (some ⟨pv, 0, none⟩) ∧ get fr 15 = .int .i64 n ∧ get fr 16 = .int .i64 i) ?_ (k := n) ?_
  ·rintro kk fr st ⟨i, h', f', hik, rfl, hbf, hfl, hlen, hkeep, hI', g0, g1, g2, g3, g15, g16⟩
   obtain ⟨buf, hb, hbl, hbt⟩ := hI'.buf
   have hlo' := hI'.lo_
   by_cases hi : i < n
   ·have hw : IntKind.i64.wrap ((i : Int) + 1) = (i : Int) + 1 := by rw [w64_id] <;> omega
    have hInt : Ints h' (.slice (some ⟨B, 0, none⟩) f.length n) f := by
     refine ⟨_, B, 0, n, rfl, fun _ => rfl, fun j hj => ?_, fun j => ?_, by omega⟩
     ·rw [rd_def, hb, Nat.zero_add]
      simp only [rdO_cells]
      rw [intsC_get (by omega), take_nth hbt rfl hj]
     ·by_cases hj : j < f.length
      ·have := hf _ (nth_mem hj)
       constructor <;> omega
      ·rw [nth_ge (by omega)]; constructor <;> omega
    have hct := containsI_ hE (y := (i : Int)) hInt (by omega)
    by_cases hmem : (i : Int) ∈ f
    ·have hvs : visI n m f (i + 1) = visI n m f i := by rw [visI_succ, if_pos hmem, List.append_nil]
     simp [g0, g1, g2, g3, g15, g16, hi, DC_of hct, hmem, hw]
     refine ⟨kk - 1, by omega, i + 1, by omega, h', f', ⟨rfl, rfl⟩, hbf, ?_, hlen, hkeep, ?_, by omega⟩
     ·rw [hvs]; exact hfl
     ·rw [hvs]; exact hI'
    ·have hvs : visI n m f (i + 1) = visI n m f i ++ visL n m (f ++ [(i : Int)]) := by rw [visI_succ, if_neg hmem]
     have hpv := hkeep _ _ h7 e2 h12 h11
     have hpn := hkeep _ _ h6 e1 h10 h9
     have hBl := (List.getElem?_eq_some_iff.1 hb).1
     have hx0 : rdN (h' ++ [O.cells [.int .i64 i] 3 (some 0)]) h'.length 0 1 = some [.int .i64 i] := by simp [rdN_at0]
     have happ := append_fit (el := 3) (bytes := 8) (k := f.length) (c := n) (fl := f') (app_of hb [O.cells [.int .i64 i] 3 (some 0)]) (by omega) (by simp; omega) (by rfl) hx0
     rw [intsC_set] at happ
     obtain ⟨H, hH⟩ : ∃ H, H = (h' ++ [O.cells [.int .i64 i] 3 (some 0)]).set B (.cells (intsC (buf.set f.length i)) 3 (some 0)) := ⟨_, rfl⟩
     have hlH : H.length = h'.length + 1 := by rw [hH, List.length_set]; simp
     rw [← hH] at happ
     have hKH : ∀ (b : Nat) (o : O), h'[b]? = some o → b ≠ B → H[b]? = some o := fun b o hb hn => by rw [hH]; exact set_ne (app_of hb _) hn
     have hHB : H[B]? = some (.cells (intsC (buf.set f.length i)) 3 (some 0)) := by rw [hH]; exact set_self (app_of hb _)
     obtain ⟨ov, vs, ho, hov, hP⟩ := hI'.out
     have hfl1 : (f ++ [(i : Int)]).length = f.length + 1 := by simp
     have hIH : VsI H lo n B po (f ++ [(i : Int)]).length (f ++ [(i : Int)]) (Ls ++ visI n m f i) := by
      refine ⟨⟨_, hHB, by simp [hbl], by rw [hfl1]; exact take_set_snoc hbt (by omega)⟩, ⟨ov, vs, hKH _ _ ho h8, ?_, fun q hq => ?_⟩, by omega⟩
      ·refine hov.keep fun b s e1 e2 => hKH _ _ e2 fun e => ?_
       rcases hov.2 with ⟨z1, _⟩ | ⟨b2, s2, z1, z2, z3, _⟩
       ·rw [z1] at e1; cases e1
       ·rw [z1] at e1
        simp only [Value.slice.injEq, Option.some.injEq, Addr.mk.injEq] at e1
        omega
      ·obtain ⟨b, q1, q2, q3⟩ := hP q hq
       exact ⟨b, q1, q2, hKH _ _ q3 (by omega)⟩
     have hvle := visI_le n m f i
     have hmul : (i + 1) * n ^ m ≤ n * n ^ m := Nat.mul_le_mul_right _ (by omega)
     rw [Nat.succ_mul] at hmul
     rw [Nat.pow_succ, Nat.mul_comm] at hbd
     have hcall := ih (h := H) (f := f ++ [(i : Int)]) (Ls := Ls ++ visI n m f i) (by rw [hfl1]; omega) (fun y hy => by
      rcases List.mem_append.1 hy with hy | hy
      ·exact hf y hy
      ·simp at hy; omega) hn0 (by rw [List.length_append]; omega) (hKH _ _ hpn h9) (hKH _ _ hpv h11) hIH
     rw [hfl1] at hcall
     simp [visV] at hpv
     simp [g0, g1, g2, g3, g15, g16, hi, DC_of hct, hmem, rd_def, hpv, bit, happ, -List.length_append]
     refine ⟨Ne.symm h11, hcall.imp ?_⟩
     rintro o ⟨h4', f4⟩ ⟨rfl, r1, r2, r3, r4⟩
     simp only at r1 r2 r3 r4
     have hjf : ∃ f5, joined ⟨H, min f' B⟩ ⟨h4', f4⟩ = ⟨h4', f5⟩ ∧ base ≤ f5 ∧ f5 < h.length := by
      simp only [joined]
      by_cases c : f4 < H.length
      ·rw [if_pos c]; exact ⟨_, rfl, by omega, by omega⟩
      ·rw [if_neg c]; exact ⟨_, rfl, by omega, by omega⟩
     obtain ⟨f5, hj5, hj6, hj7⟩ := hjf
     have hl4 : h.length ≤ h4'.length := by omega
     simp [hj5, bit, g0, g1, g2, g3, g15, g16, hw]
     refine ⟨kk - 1, by omega, i + 1, by omega, h4', f5, ⟨rfl, rfl⟩, hj6, .inr hj7, hl4, fun b o hbl hb hn1 hn2 => r3 b o hbl (hKH _ _ (hkeep b o hbl hb hn1 hn2) hn2) hn1 hn2, ?_, by omega⟩
     rw [hvs, ← List.append_assoc]
     obtain ⟨buf2, y1, y2, y3⟩ := r4.buf
     refine ⟨⟨buf2, y1, y2, ?_⟩, r4.out, r4.lo_⟩
     have := congrArg (List.take f.length) y3
     rw [List.take_take, Nat.min_eq_left (by omega), List.take_left] at this
     exact this
   ·have hin : i = n := by omega
    subst hin
    simp [g0, g1, g2, g3, g15, g16]
    rcases hfl with ⟨rfl, rfl, hv0⟩ | hfl
    ·unfold pairQ
     rw [back_scalar (by rfl) (Nat.le_refl _)]
     exact ⟨rfl, by simp only; omega, Nat.le_refl _, fun b o _ hb _ _ => hb, hI'⟩
    ·unfold pairQ back
     rw [if_neg (by simp; omega)]
     exact ⟨rfl, hbf, hlen, hkeep, hI'⟩
  ·refine ⟨0, h, h.length, by omega, rfl, by omega, .inl ⟨rfl, rfl, by simp [visI]⟩, Nat.le_refl _, fun b o _ hb _ _ => hb, by simpa [visI] using hI, by simp⟩
end Go.Proofs.Ytjlkndkedknocaa
namespace Go.Ai
def permL (n : Nat) : List (List Int) := visL n n []
end Go.Ai
namespace Go.Proofs.Ytjlkndkedknocaa
open Go Go.Ai
attribute [local instance] Classical.propDecidable
def PermsP (h : List O) (lo n : Nat) (v : Value) : Prop := ∃ vs, OwnS h lo v (permL n).length vs 34 1 ∧ PrmI h lo n vs (permL n)
theorem PrmI.keep {h h' : List O} {lo n : Nat} {vs : List Value} {Ls : List (List Int)} (k : PrmI h lo n vs Ls) (hk : ∀ (b : Nat) (o : O), lo ≤ b → h[b]? = some o → h'[b]? = some o) : PrmI h' lo n vs Ls := fun q hq => by
 obtain ⟨b, h1, h2, h3⟩ := k q hq
 exact ⟨b, h1, h2, hk b _ h2 h3⟩
theorem PermsP.keep {h h' : List O} {lo n : Nat} {v : Value} (k : PermsP h lo n v) (hk : ∀ (b : Nat) (o : O), lo ≤ b → h[b]? = some o → h'[b]? = some o) : PermsP h' lo n v := by
 obtain ⟨vs, h1, h2⟩ := k
 refine ⟨vs, h1.keep fun b s e1 e2 => ?_, h2.keep hk⟩
 rcases h1.2 with ⟨z1, _⟩ | ⟨b2, s2, z1, z2, z3, _⟩
 ·rw [z1] at e1; cases e1
 ·rw [z1] at e1
  simp only [Value.slice.injEq, Option.some.injEq, Addr.mk.injEq] at e1
  exact hk b _ (by omega) e2
theorem PermsP.look {h : List O} {lo n : Nat} {v : Value} (k : PermsP h lo n v) : ∃ a, v = .slice a (permL n).length (permL n).length ∧ ∀ q, q < (permL n).length → ∃ b b', a = some ⟨b, 0, none⟩ ∧ lo ≤ b ∧ rdO h[b]? q = some (.slice (some ⟨b', 0, none⟩) n n) ∧ lo ≤ b' ∧ h[b']? = some (.cells (intsC (nthR (permL n) q)) 3 (some 1)) := by
 obtain ⟨vs, ⟨h1, h2⟩, h3⟩ := k
 rcases h2 with ⟨rfl, h0⟩ | ⟨b, s, rfl, hb, hc, _⟩
 ·exact ⟨none, by rw [h0], fun q hq => by omega⟩
 ·refine ⟨_, rfl, fun q hq => ?_⟩
  obtain ⟨b', r1, r2, r3⟩ := h3 q hq
  exact ⟨b, b', rfl, hb, by rw [hc]; exact r1, r2, r3⟩
variable {E : Env} (hE : OE E)
include hE
theorem permutations_ {h0 : List O} {n : Nat} (hn : 1 ≤ n ∧ n ≤ 6) :
  DC E 132 [.int .i64 n] ⟨h0, h0.length⟩ fun o st' => ∃ v, o = .ret v ∧ Sub h0 st'.h ∧ h0.length ≤ st'.fl ∧ PermsP st'.h h0.length n v := by
 refine hE.fnC (body := rb132) rfl ?_
 unfold rb132
 have e1 : (n : Int) * 8 ≤ 140737488355328 := by omega
 have e2 : (n : Int) < 4611686018427387904 := by omega
 have hrep : rep n [Value.int .i64 0] = intsC (List.replicate n 0) := by simp [rep, intsC]
 have hb1 : one1 (.func (.func 186) #[] #[.pointer (some ⟨h0.length, 0, none⟩), .pointer (some ⟨h0.length + 1, 0, none⟩), .pointer (some ⟨h0.length + 2, 0, none⟩)]) = true := rfl
 have hb2 : (Value.func (.func 186) #[] #[.pointer (some ⟨h0.length, 0, none⟩), .pointer (some ⟨h0.length + 1, 0, none⟩), .pointer (some ⟨h0.length + 2, 0, none⟩)]).cells = #[.func (.func 186) #[] #[.pointer (some ⟨h0.length, 0, none⟩), .pointer (some ⟨h0.length + 1, 0, none⟩), .pointer (some ⟨h0.length + 2, 0, none⟩)]] := rfl
 obtain ⟨H, hH⟩ : ∃ H, H = h0 ++ [O.cells [.int .i64 n] 3 (some 0), .cells [.slice none 0 0] 48 (some 0), .cells [visV h0.length (h0.length + 1) (h0.length + 2)] 226 (some 0), .cells (intsC (List.replicate n 0)) 3 (some 0)] := ⟨_, rfl⟩
 have hlH : H.length = h0.length + 4 := by rw [hH]; simp
 have q0 : H[h0.length]? = some (.cells [.int .i64 n] 3 (some 0)) := by rw [hH, app_at0]; rfl
 have q1 : H[h0.length + 1]? = some (.cells [.slice none 0 0] 48 (some 0)) := by rw [hH, app_at]; rfl
 have q2 : H[h0.length + 2]? = some (.cells [visV h0.length (h0.length + 1) (h0.length + 2)] 226 (some 0)) := by rw [hH, app_at]; rfl
 have q3 : H[h0.length + 3]? = some (.cells (intsC (List.replicate n 0)) 3 (some 0)) := by rw [hH, app_at]; rfl
 have hpow : n ^ n ≤ 46656 := by
  have h1 : n ^ n ≤ 6 ^ n := Nat.pow_le_pow_left hn.2 n
  have h2 : 6 ^ n ≤ 6 ^ 6 := Nat.pow_le_pow_right (by omega) hn.2
  omega
 have hv := visit_ hE (n := n) (lo := h0.length + 4) (base := h0.length) (B := h0.length + 3) (pn := h0.length) (po := h0.length + 1) (pv := h0.length + 2) hn.2 (by omega) (by omega) (by omega) (by omega) (by omega) (by omega) (by omega) (by omega) (by omega) (by omega) (by omega) (by omega)
  n (h := H) (f := []) (Ls := []) (by simp) (fun y hy => by simp at hy) (by omega) (by simp; omega) q0 q2
  ⟨⟨_, q3, by simp, by simp⟩, ⟨.slice none 0 0, [], q1, OwnS.nil _ _ _ _, fun q hq => by simp at hq⟩, by omega⟩
 simp only [visV] at hH
 simp at hv
 simp [e1, e2, hrep, wrN_at, set_at, hb1, hb2, rd_at, rd_at0, bit, List.append_assoc, ← hH, ← hlH]
 refine hv.imp ?_
 rintro o ⟨h4, f4⟩ ⟨rfl, r1, r2, r3, r4⟩
 simp only at r1 r2 r3 r4
 obtain ⟨ov, vs, y1, y2, y3⟩ := r4.out
 have hjf : ∃ f5, joined ⟨H, h0.length⟩ ⟨h4, f4⟩ = ⟨h4, f5⟩ ∧ h0.length ≤ f5 := by
  simp only [joined]
  by_cases c : f4 < H.length
  ·rw [if_pos c]; exact ⟨_, rfl, by omega⟩
  ·rw [if_neg c]; exact ⟨_, rfl, by omega⟩
 obtain ⟨f5, hj5, hj6⟩ := hjf
 simp [hj5, bit, rd_def, y1, endK_normal]
 unfold pairQ back
 have hP : PermsP h4 h0.length n ov := by
  refine ⟨vs, ?_, fun q hq => ?_⟩
  ·obtain ⟨z1, z2⟩ := y2
   refine ⟨z1, ?_⟩
   rcases z2 with z2 | ⟨b, s, a1, a2, a3⟩
   ·exact .inl z2
   ·exact .inr ⟨b, s, a1, by omega, a3⟩
  ·obtain ⟨b, a1, a2, a3⟩ := y3 q hq
   exact ⟨b, a1, by omega, a3⟩
 split
 ·rename_i hc
  refine ⟨ov, rfl, Sub.refl _, Nat.le_refl _, ?_⟩
  obtain ⟨a, hov, _⟩ := hP.look
  have hfl : flat ov = true := by
   rw [hov] at hc ⊢
   simp [Out.scalar, scalar, flat1] at hc
   exact hc.1
  have hl0 := flat_len hov hfl
  refine ⟨vs, ⟨y2.1, ?_⟩, fun q hq => by omega⟩
  rcases y2.2 with ⟨z1, z2⟩ | ⟨b, s, a1, a2, a3, a4⟩
  ·exact .inl ⟨z1, z2⟩
  ·rw [a1] at hfl; simp [flat] at hfl
 ·exact ⟨ov, rfl, fun b o hb => by
   have := (List.getElem?_eq_some_iff.1 hb).1
   exact r3 b o (by omega) (by rw [hH]; exact app_of hb _) (by omega) (by omega), hj6, hP⟩
end Go.Proofs.Ytjlkndkedknocaa
namespace Go.Proofs.Ytjlkndkedknocaa
open Go Go.Ai
attribute [local instance] Classical.propDecidable
structure AskI (h : List O) (pI pK pN n : Nat) (A B : List (List Int)) : Prop where
 vI : ∃ v, h[pI]? = some (.cells [v] 48 (some 0)) ∧ Mat h v A
 vK : ∃ v, h[pK]? = some (.cells [v] 48 (some 0)) ∧ Mat h v B
 vN : h[pN]? = some (.cells [.int .i64 n] 3 (some 0))
 rA : RowsOk n A
 rB : RowsOk n B
 len : B.length = A.length
 small : A.length ≤ 100000 ∧ n ≤ 100000
def askV (pI pK pN : Nat) : Value := .func (.func 191) #[] #[.pointer (some ⟨pI, 0, none⟩), .pointer (some ⟨pK, 0, none⟩), .pointer (some ⟨pN, 0, none⟩)]
variable {E : Env} (hE : OE E)
include hE
theorem asks_ {h : List O} {pI pK pN n : Nat} {A B : List (List Int)} {vw : Value} {w : List Int} (hI : AskI h pI pK pN n A B) (hw : Ints h vw w) (hL : LetOk A.length w) :
  DR E 191 [vw, .pointer (some ⟨pI, 0, none⟩), .pointer (some ⟨pK, 0, none⟩), .pointer (some ⟨pN, 0, none⟩)] ⟨h, h.length⟩ (.ret (.bool (!decide (TrivL A B w n)))) ⟨h, h.length⟩ := by
 refine hE.fn (body := rb191) rfl ?_
 unfold rb191
 obtain ⟨v1, e1, m1⟩ := hI.vI
 obtain ⟨v2, e2, m2⟩ := hI.vK
 have e3 := hI.vN
 have ht := isTrivial_ hE m1 m2 hw hI.rA hI.rB hI.len hL hI.small
 simp [rd_def, e1, e2, e3, DC_of ht, endK_ret]
theorem indexF_ {h : List O} {pI pK pN n : Nat} {A B R : List (List Int)} {v : Value} (hI : AskI h pI pK pN n A B) (hR : Mat h v R) (hL : ∀ i, i < R.length → LetOk A.length (nthR R i)) (hlt : R.length < 1000000) :
  DR E 228 [v, askV pI pK pN] ⟨h, h.length⟩ (.ret (.int .i64 (firstI (fun i => !decide (TrivL A B (nthR R i) n)) R.length))) ⟨h, h.length⟩ := by
 refine hE.fn (body := rb228) rfl ?_
 unfold rb228
 obtain ⟨a, b, o, c, vs, rfl, ha, hrd⟩ := hR.at
 simp
 refine DW_loop (fun kk fr st => ∃ (i : Nat), i + kk = R.length ∧ st = ⟨h, h.length⟩ ∧ (∀ j, j < i → TrivL A B (nthR R j) n) ∧ get fr 0 = .slice a R.length c ∧ get fr 1 = askV pI pK pN ∧ get fr 7 = .int .i64 R.length ∧ get fr 8 = .int .i64 i) ?_ (k := R.length) ?_
 ·rintro kk fr st ⟨i, hik, rfl, hm, g0, g1, g7, g8⟩
  by_cases hi : i < R.length
  ·have hw : IntKind.i64.wrap ((i : Int) + 1) = (i : Int) + 1 := by rw [w64_id] <;> omega
   obtain rfl := ha (by omega)
   obtain ⟨hr1, hr2⟩ := hrd i hi
   have hq := asks_ hE hI hr2 (hL i hi)
   by_cases hy : TrivL A B (nthR R i) n
   ·simp [g0, g1, g7, g8, hi, rd_def, hr1, askV, DC_of hq, hy, hw]
    refine ⟨kk - 1, by omega, i + 1, by omega, fun j hj => ?_, by omega⟩
    by_cases e : j = i
    ·rw [e]; exact hy
    ·exact hm j (by omega)
   ·have hf : firstI (fun i => !decide (TrivL A B (nthR R i) n)) R.length = i := firstI_found hi (by simp [hy]) (fun j hj => by simp [hm j hj])
    simp [g0, g1, g7, g8, hi, rd_def, hr1, askV, DC_of hq, hy, endK_ret]
    exact hf.symm
  ·have hin : i = R.length := by omega
   subst hin
   have hf : firstI (fun i => !decide (TrivL A B (nthR R i) n)) R.length = -1 := firstI_none (fun j hj => by simp [hm j hj])
   simp [g0, g1, g7, g8, endK_ret]
   exact hf.symm
 ·exact ⟨0, by omega, rfl, fun j h => by omega, by simp⟩
theorem containsF_ {h : List O} {pI pK pN n : Nat} {A B R : List (List Int)} {v : Value} (hI : AskI h pI pK pN n A B) (hR : Mat h v R) (hL : ∀ i, i < R.length → LetOk A.length (nthR R i)) (hlt : R.length < 1000000) :
  DR E 190 [v, askV pI pK pN] ⟨h, h.length⟩ (.ret (.bool (!decide (∀ i, i < R.length → TrivL A B (nthR R i) n)))) ⟨h, h.length⟩ := by
 refine hE.fn (body := rb190) rfl ?_
 unfold rb190
 have hi := indexF_ hE hI hR hL hlt
 have hiff : (0 ≤ firstI (fun i => !decide (TrivL A B (nthR R i) n)) R.length) ↔ ¬ ∀ i, i < R.length → TrivL A B (nthR R i) n := by
  rcases firstI_cases (fun i => !decide (TrivL A B (nthR R i) n)) R.length with ⟨i, h1, h2, _, h3⟩ | ⟨h1, h2⟩
  ·rw [h3]
   have : ¬ TrivL A B (nthR R i) n := by simpa using h2
   exact ⟨fun _ hall => this (hall i h1), fun _ => by omega⟩
  ·rw [h2]
   refine ⟨fun h => by omega, fun h => absurd (fun i hi => ?_) h⟩
   have := h1 i hi
   simpa using this
 by_cases hall : ∀ i, i < R.length → TrivL A B (nthR R i) n
 ·have h0 : ¬ 0 ≤ firstI (fun i => !decide (TrivL A B (nthR R i) n)) R.length := fun h => hiff.1 h hall
  rw [decide_eq_true hall]
  generalize firstI (fun i => !decide (TrivL A B (nthR R i) n)) R.length = z at hi h0
  simp [DC_of hi, endK_ret, h0]
 ·have h0 := hiff.2 hall
  rw [decide_eq_false hall]
  generalize firstI (fun i => !decide (TrivL A B (nthR R i) n)) R.length = z at hi h0
  simp [DC_of hi, endK_ret, h0]
end Go.Proofs.Ytjlkndkedknocaa
namespace Go.Ai
attribute [local instance] Classical.propDecidable
def lastW (w : List Int) : Nat := w.foldl (fun m x => max m x.natAbs) 0
def readyL (rels : List (List Int)) (j : Nat) : List (List Int) := rels.filter fun r => lastW r == j
def GoodA (n : Nat) (rels A : List (List Int)) : Prop := ∀ i, i < (readyL rels A.length).length → TrivL A (A.map invL) (nthR (readyL rels A.length) i) n
def sumNat (f : Nat → Nat) : Nat → Nat
 | 0 => 0
 | i + 1 => sumNat f i + f i
theorem sumNat_le {f : Nat → Nat} {M : Nat} : ∀ {n : Nat}, (∀ i, i < n → f i ≤ M) → sumNat f n ≤ n * M := by
 intro n
 induction n with
 | zero => intro _; simp [sumNat]
 | succ n ih =>
  intro h
  have h1 := ih fun i hi => h i (by omega)
  have h2 := h n (by omega)
  simp only [sumNat, Nat.succ_mul]
  omega
noncomputable def cntV (n : Nat) (P rels : List (List Int)) : Nat → List (List Int) → Nat
 | 0, _ => 1
 | m + 1, im => sumNat (fun q => if GoodA n rels (im ++ [nthR P q]) then cntV n P rels m (im ++ [nthR P q]) else 0) P.length
noncomputable def cntI (n : Nat) (P rels : List (List Int)) (m : Nat) (im : List (List Int)) (i : Nat) : Nat := sumNat (fun q => if GoodA n rels (im ++ [nthR P q]) then cntV n P rels m (im ++ [nthR P q]) else 0) i
theorem cntV_le (n : Nat) (P rels : List (List Int)) : ∀ m im, cntV n P rels m im ≤ P.length ^ m := by
 intro m
 induction m with
 | zero => intro im; simp [cntV]
 | succ m ih =>
  intro im
  have := sumNat_le (f := fun q => if GoodA n rels (im ++ [nthR P q]) then cntV n P rels m (im ++ [nthR P q]) else 0) (M := P.length ^ m) (n := P.length) fun q _ => by
   split
   ·exact ih _
   ·omega
  rw [Nat.pow_succ, Nat.mul_comm]
  exact this
theorem cntI_le (n : Nat) (P rels : List (List Int)) (m : Nat) (im : List (List Int)) (i : Nat) : cntI n P rels m im i ≤ i * P.length ^ m := sumNat_le fun q _ => by
 split
 ·exact cntV_le _ _ _ _ _
 ·omega
theorem slice_pre {h : List O} {B gl c g : Nat} {cs : List Value} {e : TypeId} (hb : h[B]? = some (.cells cs e (some 0))) (hg : g ≤ c) : sliceV h 1 (.slice (some ⟨B, 0, none⟩) gl c) none (some (.int .i64 g)) none = some (.slice (some ⟨B, 0, none⟩) g c) := by
 have h1 : (g : Int) ≤ c := by omega
 simp [sliceV, mxB, hiB, loB, bound, sliceA, tagOk, hb, h1, hg]
theorem lastW_le {w : List Int} {y : Int} (hy : y ∈ w) : y.natAbs ≤ lastW w := by
 have key : ∀ (l : List Int) (m : Nat), m ≤ l.foldl (fun m x => max m x.natAbs) m ∧ ∀ y ∈ l, y.natAbs ≤ l.foldl (fun m x => max m x.natAbs) m := by
  intro l
  induction l with
  | nil => intro m; exact ⟨Nat.le_refl _, fun y hy => by simp at hy⟩
  | cons z l ih =>
   intro m
   obtain ⟨h1, h2⟩ := ih (max m z.natAbs)
   refine ⟨by simp only [List.foldl_cons]; omega, fun y hy => ?_⟩
   simp only [List.foldl_cons]
   rcases List.mem_cons.1 hy with rfl | hy
   ·omega
   ·exact h2 y hy
 exact (key w 0).2 y hy
end Go.Ai
namespace Go.Proofs.Ytjlkndkedknocaa
open Go Go.Ai
attribute [local instance] Classical.propDecidable
def SubX (pI pK B1 B2 pO : Nat) (h h' : List O) : Prop := ∀ (b : Nat) (o : O), h[b]? = some o → b ≠ pI → b ≠ pK → b ≠ B1 → b ≠ B2 → b ≠ pO → h'[b]? = some o
theorem SubX.refl (pI pK B1 B2 pO : Nat) (h : List O) : SubX pI pK B1 B2 pO h h := fun _ _ k _ _ _ _ _ => k
theorem SubX.trans {pI pK B1 B2 pO : Nat} {a b c : List O} (h : SubX pI pK B1 B2 pO a b) (k : SubX pI pK B1 B2 pO b c) : SubX pI pK B1 B2 pO a c := fun x o e h1 h2 h3 h4 h5 => k x o (h x o e h1 h2 h3 h4 h5) h1 h2 h3 h4 h5
theorem SubX.app {pI pK B1 B2 pO : Nat} {h h' : List O} (k : SubX pI pK B1 B2 pO h h') (l : List O) : SubX pI pK B1 B2 pO h (h' ++ l) := fun b o e h1 h2 h3 h4 h5 => app_of (k b o e h1 h2 h3 h4 h5) l
theorem SubX.set {pI pK B1 B2 pO : Nat} {h h' : List O} (k : SubX pI pK B1 B2 pO h h') {b : Nat} (hb : b = pI ∨ b = pK ∨ b = B1 ∨ b = B2 ∨ b = pO) (o : O) : SubX pI pK B1 B2 pO h (h'.set b o) := fun c o' e h1 h2 h3 h4 h5 => set_ne (k c o' e h1 h2 h3 h4 h5) (by omega)
def RowsB (h : List O) (B c n pO : Nat) (A : List (List Int)) : Prop :=
 ∃ cs, h[B]? = some (.cells cs 34 (some 0)) ∧ cs.length = c ∧ ∀ q, q < A.length → ∃ b s, cs[q]? = some (.slice (some ⟨b, 0, none⟩) n n) ∧ b ≠ pO ∧ h[b]? = some (.cells (intsC (nthR A q)) 3 (some s))
theorem RowsB.mat {h : List O} {B c n pO : Nat} {A : List (List Int)} (k : RowsB h B c n pO A) (hA : ∀ q, q < A.length → PermL n (nthR A q)) (hs : A.length ≤ 1000 ∧ n ≤ 1000) : Mat h (.slice (some ⟨B, 0, none⟩) A.length c) A := by
 obtain ⟨cs, h1, h2, h3⟩ := k
 refine ⟨_, B, 0, c, fun q => (cs[q]?).getD undef, rfl, fun _ => rfl, fun q hq => ?_, by omega⟩
 obtain ⟨b, s, r1, _, r2⟩ := h3 q hq
 have hp := hA q hq
 refine ⟨by rw [rd_def, h1, Nat.zero_add]; simp [r1], ?_⟩
 simp only [r1, Option.getD_some]
 refine ⟨_, b, 0, n, by rw [hp.len], fun _ => rfl, fun j hj => by rw [rd_def, r2, Nat.zero_add]; exact intsC_get hj, fun j => ?_, by rw [hp.len]; omega⟩
 by_cases hj : j < (nthR A q).length
 ·have := hp.rng j hj
  constructor <;> omega
 ·rw [nth_ge (by omega)]; constructor <;> omega
structure DynI (h : List O) (pI pK B1 B2 pO n gens gl : Nat) (c : Int) (A : List (List Int)) : Prop where
 i : h[pI]? = some (.cells [.slice (some ⟨B1, 0, none⟩) gl gens] 48 (some 0))
 k : h[pK]? = some (.cells [.slice (some ⟨B2, 0, none⟩) gl gens] 48 (some 0))
 b1 : RowsB h B1 gens n pO A
 b2 : RowsB h B2 gens n pO (invA A)
 o : h[pO]? = some (.cells [.int .i64 c] 3 (some 0))
theorem nthR_snoc {A : List (List Int)} {f : List Int} {q : Nat} : nthR (A ++ [f]) q = if q < A.length then nthR A q else if q = A.length then f else [] := by
 unfold nthR
 by_cases h : q < A.length
 ·rw [if_pos h]; simp [List.getD_eq_getElem?_getD, List.getElem?_append_left h]
 ·rw [if_neg h, List.getD_eq_getElem?_getD, List.getElem?_append_right (by omega)]
  by_cases e : q = A.length
  ·rw [if_pos e, e]; simp
  ·rw [if_neg e, List.getElem?_eq_none (by simp; omega)]; rfl
theorem RowsB.add {h H : List O} {B c n pO b s : Nat} {A : List (List Int)} {f : List Int} {cs : List Value} (hc : h[B]? = some (.cells cs 34 (some 0))) (hl : cs.length = c) (hr : ∀ q, q < A.length → ∃ b s, cs[q]? = some (.slice (some ⟨b, 0, none⟩) n n) ∧ b ≠ pO ∧ h[b]? = some (.cells (intsC (nthR A q)) 3 (some s)))
  (hA : A.length < c) (hH : H[B]? = some (.cells (cs.set A.length (.slice (some ⟨b, 0, none⟩) n n)) 34 (some 0))) (hk : ∀ b' cs' s', h[b']? = some (.cells cs' 3 (some s')) → b' ≠ pO → H[b']? = some (.cells cs' 3 (some s')))
  (hb : b ≠ pO) (hf : H[b]? = some (.cells (intsC f) 3 (some s))) : RowsB H B c n pO (A ++ [f]) := by
 refine ⟨_, hH, by simp [hl], fun q hq => ?_⟩
 simp at hq
 rw [nthR_snoc]
 by_cases e : q < A.length
 ·rw [if_pos e]
  obtain ⟨b1, s1, r1, r2, r3⟩ := hr q e
  exact ⟨b1, s1, by rw [List.getElem?_set_ne (by omega)]; exact r1, r2, hk _ _ _ r3 r2⟩
 ·have eq : q = A.length := by omega
  rw [if_neg e, if_pos eq, eq]
  exact ⟨b, s, by rw [List.getElem?_set_self (by omega)], hb, hf⟩
theorem RowsB.keep {h h' : List O} {B c n pO : Nat} {A : List (List Int)} (k : RowsB h B c n pO A) (hB : ∀ cs, h[B]? = some (.cells cs 34 (some 0)) → h'[B]? = some (.cells cs 34 (some 0))) (hk : ∀ b' cs' s', h[b']? = some (.cells cs' 3 (some s')) → b' ≠ pO → h'[b']? = some (.cells cs' 3 (some s'))) : RowsB h' B c n pO A := by
 obtain ⟨cs, h1, h2, h3⟩ := k
 refine ⟨cs, hB _ h1, h2, fun q hq => ?_⟩
 obtain ⟨b, s, r1, r2, r3⟩ := h3 q hq
 exact ⟨b, s, r1, r2, hk _ _ _ r3 r2⟩
theorem RowsB.less {h : List O} {B c n pO : Nat} {A : List (List Int)} {f : List Int} (k : RowsB h B c n pO (A ++ [f])) : RowsB h B c n pO A := by
 obtain ⟨cs, h1, h2, h3⟩ := k
 refine ⟨cs, h1, h2, fun q hq => ?_⟩
 obtain ⟨b, s, r1, r2, r3⟩ := h3 q (by simp; omega)
 rw [nthR_snoc, if_pos hq] at r3
 exact ⟨b, s, r1, r2, r3⟩
theorem invA_snoc (A : List (List Int)) (f : List Int) : invA (A ++ [f]) = invA A ++ [invL f] := by simp [invA]
def visV2 (pI pG pY pA pK pR pN pV : Nat) : Value := .func (.func 189) #[] #[.pointer (some ⟨pI, 0, none⟩), .pointer (some ⟨pG, 0, none⟩), .pointer (some ⟨pY, 0, none⟩), .pointer (some ⟨pA, 0, none⟩), .pointer (some ⟨pK, 0, none⟩), .pointer (some ⟨pR, 0, none⟩), .pointer (some ⟨pN, 0, none⟩), .pointer (some ⟨pV, 0, none⟩)]
structure FixI (E : Env) (h : List O) (aa : Option Addr) (pG pY pA pR pN pV pO k n gens : Nat) (vV : Value) (rels : List (List Int)) : Prop where
 g : ∃ vr, h[pG]? = some (.cells [.int .i64 gens, vr] 81 (some 0))
 y : h[pY]? = some (.cells [tok k] 219 (some 0))
 a : h[pA]? = some (.cells [.slice aa (permL n).length (permL n).length] 48 (some 0))
 rows : ∀ q, q < (permL n).length → ∃ b b', aa = some ⟨b, 0, none⟩ ∧ rdO h[b]? q = some (.slice (some ⟨b', 0, none⟩) n n) ∧ b' ≠ pO ∧ h[b']? = some (.cells (intsC (nthR (permL n) q)) 3 (some 1))
 r : ∃ Rb rv, h[pR]? = some (.cells [.slice (some ⟨Rb, 0, none⟩) (gens + 1) (gens + 1)] 129 (some 0)) ∧ h[Rb]? = some (.cells rv 48 (some 0)) ∧ ∀ j, j < gens + 1 → ∃ v, rv[j]? = some v ∧ Mat h v (readyL rels j)
 n_ : h[pN]? = some (.cells [.int .i64 n] 3 (some 0))
 v : h[pV]? = some (.cells [vV] 25 (some 0))
 call : ∀ (v : Value) (c : Int), h[pO]? = some (.cells [.int .i64 c] 3 (some 0)) → 0 ≤ c ∧ c ≤ 10000000000 → DR E (yB + k) [v] ⟨h, h.length⟩ (.ret (.bool true)) ⟨h.set pO (.cells [.int .i64 (c + 1)] 3 (some 0)), min pO k⟩
end Go.Proofs.Ytjlkndkedknocaa
namespace Go.Proofs.Ytjlkndkedknocaa
open Go Go.Ai
attribute [local instance] Classical.propDecidable
variable {E : Env} (hE : OE E)
include hE
theorem visit2_ {hV : List O} {aa : Option Addr} {pI pG pY pA pK pR pN pV pO B1 B2 k n gens base : Nat} {rels : List (List Int)} (hn : 1 ≤ n ∧ n ≤ 6) (hgens : gens ≤ 600)
  (hPerm : ∀ q, q < (permL n).length → PermL n (nthR (permL n) q)) (hlet : ∀ r ∈ rels, LetOk (lastW r) r) (hrels : rels.length < 1000000)
  (hfix : ∀ h, SubX pI pK B1 B2 pO hV h → hV.length ≤ h.length → FixI E h aa pG pY pA pR pN pV pO k n gens (visV2 pI pG pY pA pK pR pN pV) rels)
  (hb : base ≤ pI ∧ base ≤ pK ∧ base ≤ B1 ∧ base ≤ B2 ∧ base ≤ pO ∧ base ≤ k) (hl : pI < hV.length ∧ pK < hV.length ∧ B1 < hV.length ∧ B2 < hV.length ∧ pO < hV.length ∧ k < hV.length) (hbl : base ≤ hV.length)
  (d1 : pI ≠ pK) (d2 : pI ≠ B1) (d3 : pI ≠ B2) (d4 : pI ≠ pO) (d5 : pK ≠ B1) (d6 : pK ≠ B2) (d7 : pK ≠ pO) (d8 : B1 ≠ B2) (d9 : B1 ≠ pO) (d10 : B2 ≠ pO) :
  ∀ (m : Nat) {h : List O} {im : List (List Int)} {c : Int}, im.length + m = gens → (∀ q, q < im.length → PermL n (nthR im q)) → SubX pI pK B1 B2 pO hV h → hV.length ≤ h.length → DynI h pI pK B1 B2 pO n gens im.length c im → 0 ≤ c → c + ((permL n).length ^ m : Nat) ≤ 10000000000 →
   DC E 189 [.pointer (some ⟨pI, 0, none⟩), .pointer (some ⟨pG, 0, none⟩), .pointer (some ⟨pY, 0, none⟩), .pointer (some ⟨pA, 0, none⟩), .pointer (some ⟨pK, 0, none⟩), .pointer (some ⟨pR, 0, none⟩), .pointer (some ⟨pN, 0, none⟩), .pointer (some ⟨pV, 0, none⟩)] ⟨h, h.length⟩ fun o st' =>
    o = .ret (.bool true) ∧ base ≤ st'.fl ∧ st'.fl < hV.length ∧ h.length ≤ st'.h.length ∧ SubX pI pK B1 B2 pO h st'.h ∧ DynI st'.h pI pK B1 B2 pO n gens im.length (c + cntV n (permL n) rels m im) im := by
 intro m
 induction m with
 | zero =>
  intro h im c hm him hs hlen hD hc0 hc1
  refine hE.fnC (body := rb189) rfl ?_
  unfold rb189
  have hF := hfix h hs hlen
  obtain ⟨vr, fg⟩ := hF.g
  have fy := hF.y
  have e1 := hD.i
  have hgl : im.length = gens := by omega
  rw [hgl] at e1
  have hcall := hF.call (.slice (some ⟨B1, 0, none⟩) gens gens) c hD.o ⟨hc0, by omega⟩
  have hfl : min pO k < h.length := by omega
  have hjd : joined ⟨h, h.length⟩ ⟨h.set pO (.cells [.int .i64 (c + 1)] 3 (some 0)), min pO k⟩ = ⟨h.set pO (.cells [.int .i64 (c + 1)] 3 (some 0)), min pO k⟩ := by
   simp only [joined]
   rw [if_pos hfl]
   congr 1
   omega
  simp [rd_def, e1, fg, fy, tok, DC_of hcall, hjd, endK_ret]
  unfold pairQ back
  rw [if_neg (by simp; omega)]
  refine ⟨rfl, by simp only; omega, by simp only; omega, by simp, (SubX.refl _ _ _ _ _ _).set (by omega) _, set_ne hD.i d4, set_ne hD.k d7, ?_, ?_, ?_⟩
  ·obtain ⟨cs, r1, r2, r3⟩ := hD.b1
   exact ⟨cs, set_ne r1 d9, r2, fun q hq => by
    obtain ⟨b, s, y1, y2, y3⟩ := r3 q hq
    exact ⟨b, s, y1, y2, set_ne y3 y2⟩⟩
  ·obtain ⟨cs, r1, r2, r3⟩ := hD.b2
   exact ⟨cs, set_ne r1 d10, r2, fun q hq => by
    obtain ⟨b, s, y1, y2, y3⟩ := r3 q hq
    exact ⟨b, s, y1, y2, set_ne y3 y2⟩⟩
  ·simp only [cntV]
   exact set_self hD.o
 | succ m ih =>
  intro h im c hm him hs hlen hD hc0 hc1
  refine hE.fnC (body := rb189) rfl ?_
  unfold rb189
  have hF := hfix h hs hlen
  obtain ⟨vr, fg⟩ := hF.g
  have e1 := hD.i
  obtain ⟨g, hg⟩ : ∃ g, g = im.length := ⟨_, rfl⟩
  rw [← hg] at e1 hm him ⊢
  have hgn : g < gens := by omega
  have hgne : ¬ g = gens := by omega
  have hgne' : ¬ (g : Int) = gens := by omega
  have fa := hF.a
  simp [rd_def, e1, fg, hgne, hgne', fa]
  have hcv : cntV n (permL n) rels (m + 1) im = cntI n (permL n) rels m im (permL n).length := rfl
  rw [hcv]
  refine DW_loop (fun kk fr st => ∃ (i : Nat) (h' : List O) (f' gl : Nat), i + kk = (permL n).length ∧ st = ⟨h', f'⟩ ∧ base ≤ f' ∧ f' ≤ h.length ∧ h.length ≤ h'.length ∧ SubX pI pK B1 B2 pO h h' ∧ DynI h' pI pK B1 B2 pO n gens gl (c + cntI n (permL n) rels m im i) im ∧
   get fr 0 = .pointer (some ⟨pI, 0, none⟩) ∧ get fr 4 = .pointer (some ⟨pK, 0, none⟩) ∧ get fr 5 = .pointer (some ⟨pR, 0, none⟩) ∧ get fr 6 = .pointer (some ⟨pN, 0, none⟩) ∧ get fr 7 = .pointer (some ⟨pV, 0, none⟩) ∧ get fr 9 = .int .i64 g ∧ get fr 22 = .slice aa (permL n).length (permL n).length ∧ get fr 23 = .int .i64 (permL n).length ∧ get fr 24 = .int .i64 i) ?_ (k := (permL n).length) ?_
  ·rintro kk fr st ⟨i, h', f', gl, hik, rfl, hf1, hf2, hlen', hX, hD', g0, g4, g5, g6, g7, g9, g22, g23, g24⟩
   have hX' : SubX pI pK B1 B2 pO hV h' := hs.trans hX
   have i1 := hD'.i
   have i2 := hD'.k
   obtain ⟨c1, x1, x2, x3⟩ := hD'.b1
   obtain ⟨c2, y1, y2, y3⟩ := hD'.b2
   by_cases hi : i < (permL n).length
   ·have hw : IntKind.i64.wrap ((i : Int) + 1) = (i : Int) + 1 := by
     rw [w64_id]
     ·omega
     ·have := visL_le n n []
      have h1 : n ^ n ≤ 6 ^ n := Nat.pow_le_pow_left hn.2 n
      have h2 : 6 ^ n ≤ 6 ^ 6 := Nat.pow_le_pow_right (by omega) hn.2
      have h3 : (permL n).length ≤ n ^ n := this
      omega
    obtain ⟨b, b', rfl, r1, r2, r3⟩ := (hfix h' hX' (by omega)).rows i hi
    obtain ⟨f, hf⟩ : ∃ f, f = nthR (permL n) i := ⟨_, rfl⟩
    have hfp : PermL n f := by rw [hf]; exact hPerm i hi
    rw [← hf] at r3
    have hbB : ∀ (q : Nat) (cs cs' : List Value) (s s' : Option Nat) (e : TypeId), h'[q]? = some (.cells cs 3 s) → ∀ p, h'[p]? = some (.cells cs' e s') → e ≠ 3 → q ≠ p := fun q cs cs' s s' e hq p hp hne hqp => by
     subst hqp; rw [hp] at hq; simp at hq; exact hne hq.2.1
    have n1 : b' ≠ B1 := hbB _ _ _ _ _ _ r3 _ x1 (by decide)
    have n2 : b' ≠ B2 := hbB _ _ _ _ _ _ r3 _ y1 (by decide)
    have n3 : b' ≠ pI := hbB _ _ _ _ _ _ r3 _ i1 (by decide)
    have n4 : b' ≠ pK := hbB _ _ _ _ _ _ r3 _ i2 (by decide)
    have sl1 := slice_pre (gl := gl) (c := gens) (g := g) x1 (by omega)
    have lB1 := (List.getElem?_eq_some_iff.1 x1).1
    have lB2 := (List.getElem?_eq_some_iff.1 y1).1
    have lpI := (List.getElem?_eq_some_iff.1 i1).1
    have lpK := (List.getElem?_eq_some_iff.1 i2).1
    have lb' := (List.getElem?_eq_some_iff.1 r3).1
    have lpO := (List.getElem?_eq_some_iff.1 hD'.o).1
    obtain ⟨H1, hH1⟩ : ∃ H1, H1 = h' ++ [O.cells [.slice (some ⟨b', 0, none⟩) n n] 34 (some 0)] := ⟨_, rfl⟩
    have l1 : H1.length = h'.length + 1 := by rw [hH1]; simp
    have K1 : ∀ (b : Nat) (o : O), h'[b]? = some o → H1[b]? = some o := fun b o hb => by rw [hH1]; exact app_of hb _
    have hx1 : rdN H1 h'.length 0 1 = some [.slice (some ⟨b', 0, none⟩) n n] := by rw [hH1]; simp [rdN_at0]
    have happ1 := append_fit (el := 34) (bytes := 24) (k := g) (c := gens) (fl := f') (K1 _ _ x1) (by omega) (by omega) (by rfl) hx1
    obtain ⟨H2, hH2⟩ : ∃ H2, H2 = H1.set B1 (.cells (c1.set g (.slice (some ⟨b', 0, none⟩) n n)) 34 (some 0)) := ⟨_, rfl⟩
    rw [← hH2] at happ1
    have l2 : H2.length = h'.length + 1 := by rw [hH2, List.length_set, l1]
    have K2 : ∀ (b : Nat) (o : O), h'[b]? = some o → b ≠ B1 → H2[b]? = some o := fun b o hb hn => by rw [hH2]; exact set_ne (K1 _ _ hb) hn
    have r3' := K2 _ _ r3 n1
    have hInt : Ints H2 (.slice (some ⟨b', 0, none⟩) n n) f := by
     refine ⟨_, b', 0, n, by rw [hfp.len], fun _ => rfl, fun j hj => by rw [rd_def, r3', Nat.zero_add]; exact intsC_get hj, fun j => ?_, by rw [hfp.len]; omega⟩
     by_cases hj : j < f.length
     ·have := hfp.rng j hj
      constructor <;> omega
     ·rw [nth_ge (by omega)]; constructor <;> omega
    have hinv := inverse_ hE hInt (by rw [hfp.len]; exact hfp.rng) (by rw [hfp.len]; omega)
    rw [hfp.len] at hinv
    obtain ⟨H3, hH3⟩ : ∃ H3, H3 = H2 ++ [O.cells (intsC (invL f)) 3 (some 0)] := ⟨_, rfl⟩
    rw [← hH3] at hinv
    have l3 : H3.length = H2.length + 1 := by rw [hH3]; simp
    obtain ⟨H4, hH4⟩ : ∃ H4, H4 = H3 ++ [O.cells [.slice (some ⟨H2.length, 0, none⟩) n n] 34 (some 0)] := ⟨_, rfl⟩
    have l4 : H4.length = H3.length + 1 := by rw [hH4]; simp
    have K4 : ∀ (b : Nat) (o : O), h'[b]? = some o → b ≠ B1 → H4[b]? = some o := fun b o hb hn => by rw [hH4, hH3]; exact app_of (app_of (K2 _ _ hb hn) _) _
    have hx4 : rdN H4 H3.length 0 1 = some [.slice (some ⟨H2.length, 0, none⟩) n n] := by rw [hH4]; simp [rdN_at0]
    have happ2 := append_fit (el := 34) (bytes := 24) (k := g) (c := gens) (fl := min f' B1) (K4 _ _ y1 (Ne.symm d8)) (by omega) (by omega) (by rfl) hx4
    obtain ⟨H5, hH5⟩ : ∃ H5, H5 = H4.set B2 (.cells (c2.set g (.slice (some ⟨H2.length, 0, none⟩) n n)) 34 (some 0)) := ⟨_, rfl⟩
    rw [← hH5] at happ2
    have K5 : ∀ (b : Nat) (o : O), h'[b]? = some o → b ≠ B1 → b ≠ B2 → H5[b]? = some o := fun b o hb hn hn2 => by rw [hH5]; exact set_ne (K4 _ _ hb hn) hn2
    have j1 := K5 _ _ i1 d2 d3
    have j2 := K5 _ _ i2 d5 d6
    have i2' := K2 _ _ i2 d5
    have sl2 := slice_pre (gl := gl) (c := gens) (g := g) (K2 _ _ y1 (Ne.symm d8)) (by omega)
    obtain ⟨H6, hH6⟩ : ∃ H6, H6 = H5.set pI (.cells [.slice (some ⟨B1, 0, none⟩) (g + 1) gens] 48 (some 0)) := ⟨_, rfl⟩
    have j2' : H6[pK]? = some (.cells [.slice (some ⟨B2, 0, none⟩) gl gens] 48 (some 0)) := by rw [hH6]; exact set_ne j2 (Ne.symm d1)
    obtain ⟨H7, hH7⟩ : ∃ H7, H7 = H6.set pK (.cells [.slice (some ⟨B2, 0, none⟩) (g + 1) gens] 48 (some 0)) := ⟨_, rfl⟩
    have l7 : H7.length = h'.length + 3 := by rw [hH7, List.length_set, hH6, List.length_set, hH5, List.length_set]; omega
    have K7 : ∀ (b : Nat) (o : O), h'[b]? = some o → b ≠ pI → b ≠ pK → b ≠ B1 → b ≠ B2 → H7[b]? = some o := fun b o hb m1 m2 m3 m4 => by rw [hH7, hH6]; exact set_ne (set_ne (K5 _ _ hb m3 m4) m1) m2
    have hX7 : SubX pI pK B1 B2 pO h H7 := hX.trans fun b o hb m1 m2 m3 m4 _ => K7 b o hb m1 m2 m3 m4
    have hF7 := hfix H7 (hs.trans hX7) (by omega)
    have q1 : H7[pI]? = some (.cells [.slice (some ⟨B1, 0, none⟩) (g + 1) gens] 48 (some 0)) := by rw [hH7, hH6]; exact set_ne (set_self j1) d1
    have q2 : H7[pK]? = some (.cells [.slice (some ⟨B2, 0, none⟩) (g + 1) gens] 48 (some 0)) := by rw [hH7]; exact set_self j2'
    have q3 : H7[B1]? = some (.cells (c1.set g (.slice (some ⟨b', 0, none⟩) n n)) 34 (some 0)) := by
     rw [hH7, hH6, hH5, hH4, hH3]
     refine set_ne (set_ne (set_ne (app_of (app_of ?_ _) _) d8) (Ne.symm d2)) (Ne.symm d5)
     rw [hH2]; exact set_self (K1 _ _ x1)
    have q4 : H7[B2]? = some (.cells (c2.set g (.slice (some ⟨H2.length, 0, none⟩) n n)) 34 (some 0)) := by
     rw [hH7, hH6]
     refine set_ne (set_ne ?_ (Ne.symm d3)) (Ne.symm d6)
     rw [hH5]; exact set_self (K4 _ _ y1 (Ne.symm d8))
    have q5 : H7[H2.length]? = some (O.cells (intsC (invL f)) 3 (some 0)) := by
     rw [hH7, hH6, hH5, hH4]
     refine set_ne (set_ne (set_ne (app_of ?_ _) (by omega)) (by omega)) (by omega)
     rw [hH3, app_at0]; rfl
    have hkint : ∀ b' cs' s', h'[b']? = some (.cells cs' 3 (some s')) → b' ≠ pO → H7[b']? = some (.cells cs' 3 (some s')) := fun p cs' s' hp _ => K7 _ _ hp (hbB _ _ _ _ _ _ hp _ i1 (by decide)) (hbB _ _ _ _ _ _ hp _ i2 (by decide)) (hbB _ _ _ _ _ _ hp _ x1 (by decide)) (hbB _ _ _ _ _ _ hp _ y1 (by decide))
    have hiA : (invA im).length = g := by rw [invA_length]; exact hg.symm
    have R1 : RowsB H7 B1 gens n pO (im ++ [f]) := RowsB.add x1 x2 x3 (by omega) (by rw [← hg]; exact q3) hkint r2 (hkint _ _ _ r3 r2)
    have R2 : RowsB H7 B2 gens n pO (invA im ++ [invL f]) := RowsB.add y1 y2 y3 (by omega) (by rw [hiA]; exact q4) hkint (by omega) q5
    rw [← invA_snoc] at R2
    have hlen1 : (im ++ [f]).length = g + 1 := by simp; omega
    have hD7 : DynI H7 pI pK B1 B2 pO n gens (im ++ [f]).length (c + cntI n (permL n) rels m im i) (im ++ [f]) := ⟨by rw [hlen1]; exact q1, by rw [hlen1]; exact q2, R1, R2, K7 _ _ hD'.o (Ne.symm d4) (Ne.symm d7) (Ne.symm d9) (Ne.symm d10)⟩
    have him7 : ∀ q, q < (im ++ [f]).length → PermL n (nthR (im ++ [f]) q) := fun q hq => by
     rw [nthR_snoc]
     by_cases e : q < im.length
     ·rw [if_pos e]; exact him q (by omega)
     ·rw [if_neg e, if_pos (by omega)]; exact hfp
    have himI : ∀ q, q < (invA (im ++ [f])).length → PermL n (nthR (invA (im ++ [f])) q) := fun q hq => by
     rw [invA_length] at hq
     rw [invA_at hq]
     exact (him7 q hq).inv
    have hM1 := R1.mat him7 ⟨by omega, by omega⟩
    have hM2 := R2.mat himI ⟨by rw [invA_length]; omega, by omega⟩
    rw [hlen1] at hM1
    rw [invA_length, hlen1] at hM2
    have hAsk : AskI H7 pI pK pN n (im ++ [f]) (invA (im ++ [f])) := ⟨⟨_, q1, hM1⟩, ⟨_, q2, hM2⟩, hF7.n_, fun k hk => ⟨(him7 k hk).len, (him7 k hk).rng⟩, fun k hk => ⟨(himI k hk).len, (himI k hk).rng⟩, invA_length _, by omega, by omega⟩
    obtain ⟨Rb, rv, f1, f2, f3⟩ := hF7.r
    obtain ⟨vr2, f4, f5⟩ := f3 (g + 1) (by omega)
    have hLet : ∀ i, i < (readyL rels (g + 1)).length → LetOk (im ++ [f]).length (nthR (readyL rels (g + 1)) i) := fun j hj => by
     obtain ⟨m1, m2⟩ := List.mem_filter.1 (show nthR (readyL rels (g + 1)) j ∈ rels.filter (fun r => lastW r == g + 1) from nthR_mem hj)
     have hlw : lastW (nthR (readyL rels (g + 1)) j) = g + 1 := by simpa using m2
     have h := hlet _ m1
     rw [hlw] at h
     rw [hlen1]
     exact h
    have hrl : (readyL rels (g + 1)).length < 1000000 := by
     have : (readyL rels (g + 1)).length ≤ rels.length := List.length_filter_le _ _
     omega
    have hct := containsF_ hE hAsk f5 hLet hrl
    have hgood : (∀ i, i < (readyL rels (g + 1)).length → TrivL (im ++ [f]) (invA (im ++ [f])) (nthR (readyL rels (g + 1)) i) n) ↔ GoodA n rels (im ++ [f]) := by unfold GoodA; rw [hlen1]; exact Iff.rfl
    have hwg : IntKind.i64.wrap ((g : Int) + 1) = (g : Int) + 1 := by rw [w64_id] <;> omega
    simp only [askV] at hct
    have hg1 : (g : Int) + 1 < (gens : Int) + 1 := by omega
    have hg0 : (0 : Int) ≤ (g : Int) + 1 := by omega
    have hgt : ((g : Int) + 1).toNat = g + 1 := by omega
    have hcI : cntI n (permL n) rels m im (i + 1) = cntI n (permL n) rels m im i + (if GoodA n rels (im ++ [f]) then cntV n (permL n) rels m (im ++ [f]) else 0) := by rw [hf]; rfl
    by_cases hG : GoodA n rels (im ++ [f])
    ·rw [decide_eq_true (hgood.2 hG)] at hct
     have hfv := hF7.v
     simp only [visV2] at hfv
     simp [g0, g4, g5, g6, g7, g9, g22, g23, g24, hi, rd_def, r1, i1, sl1, ← hH1, happ1, i2', sl2, DC_of hinv, ← hH4, happ2, bit, wrN_def, j1, ← hH6, j2', ← hH7, f1, f2, f4, hwg, hg1, hg0, hgt, DC_of hct, hfv, -List.length_append]
     have hvle := cntI_le n (permL n) rels m im i
     have hmul : (i + 1) * (permL n).length ^ m ≤ (permL n).length * (permL n).length ^ m := Nat.mul_le_mul_right _ (by omega)
     rw [Nat.succ_mul] at hmul
     rw [Nat.pow_succ, Nat.mul_comm ((permL n).length ^ m)] at hc1
     refine ⟨Ne.symm d5, d8, (ih (h := H7) (im := im ++ [f]) (c := c + cntI n (permL n) rels m im i) (by rw [hlen1]; omega) him7 (hs.trans hX7) (by omega) hD7 (by omega) (by omega)).imp ?_⟩
     rintro o ⟨h8, f8⟩ ⟨rfl, p1, p2, p3, p4, p5⟩
     simp only at p1 p2 p3 p4 p5
     have hj8 : ∀ F, joined ⟨H7, F⟩ ⟨h8, f8⟩ = ⟨h8, min F f8⟩ := fun F => by simp only [joined]; rw [if_pos (by omega)]
     simp [hj8, g0, g4, g5, g6, g7, g9, g22, g23, g24, hw]
     rw [hlen1] at p5
     refine ⟨kk - 1, by omega, i + 1, by omega, h8, _, ⟨rfl, rfl⟩, by omega, by omega, by omega, hX7.trans p4, ⟨g + 1, p5.i, p5.k, p5.b1.less, ?_, ?_⟩, by omega⟩
     ·have := p5.b2
      rw [invA_snoc] at this
      exact this.less
     ·rw [hcI, if_pos hG]
      have := p5.o
      rw [show (c + ((cntI n (permL n) rels m im i + cntV n (permL n) rels m (im ++ [f]) : Nat) : Int)) = c + (cntI n (permL n) rels m im i : Int) + (cntV n (permL n) rels m (im ++ [f]) : Int) by omega]
      exact this
    ·rw [decide_eq_false (fun h => hG (hgood.1 h))] at hct
     simp [g0, g4, g5, g6, g7, g9, g22, g23, g24, hi, rd_def, r1, i1, sl1, ← hH1, happ1, i2', sl2, DC_of hinv, ← hH4, happ2, bit, wrN_def, j1, ← hH6, j2', ← hH7, f1, f2, f4, hwg, hg1, hg0, hgt, DC_of hct, hw, -List.length_append]
     refine ⟨Ne.symm d5, d8, kk - 1, by omega, i + 1, by omega, H7, _, ⟨rfl, rfl⟩, by omega, by omega, by omega, hX7, ⟨g + 1, q1, q2, R1.less, ?_, ?_⟩, by omega⟩
     ·rw [invA_snoc] at R2
      exact R2.less
     ·rw [hcI, if_neg hG]
      exact hD7.o
   ·have hin : i = (permL n).length := by omega
    subst hin
    have sl1 := slice_pre (gl := gl) (c := gens) (g := g) x1 (by omega)
    have sl2 := slice_pre (gl := gl) (c := gens) (g := g) y1 (by omega)
    have i2' := fun o => set_ne (x := o) i2 (Ne.symm d1)
    simp [g0, g4, g5, g6, g7, g9, g22, g23, g24, rd_def, i1, i2, sl1, sl2, bit, wrN_def, i2', d1, Ne.symm d1, d2, d3, d5, d6, Ne.symm d2, Ne.symm d3, Ne.symm d5, Ne.symm d6, endK_ret]
    unfold pairQ back
    rw [if_neg (by simp; omega)]
    have lpI := (List.getElem?_eq_some_iff.1 i1).1
    have hkint : ∀ (b' : Nat) cs' s', h'[b']? = some (O.cells cs' 3 (some s')) → b' ≠ pI ∧ b' ≠ pK := fun p cs' s' hp => by
     constructor
     ·intro e; subst e; rw [hp] at i1; simp at i1
     ·intro e; subst e; rw [hp] at i2; simp at i2
    refine ⟨rfl, by simp only; omega, by simp only; omega, by simp; exact hlen', (hX.set (by omega) _).set (by omega) _, set_ne (set_self i1) d1, set_self (set_ne i2 (Ne.symm d1)), hD'.b1.keep (fun cs e => set_ne (set_ne e (Ne.symm d2)) (Ne.symm d5)) (fun p cs' s' hp _ => set_ne (set_ne hp (hkint _ _ _ hp).1) (hkint _ _ _ hp).2), hD'.b2.keep (fun cs e => set_ne (set_ne e (Ne.symm d3)) (Ne.symm d6)) (fun p cs' s' hp _ => set_ne (set_ne hp (hkint _ _ _ hp).1) (hkint _ _ _ hp).2), set_ne (set_ne hD'.o (Ne.symm d4)) (Ne.symm d7)⟩
  ·exact ⟨0, h, h.length, g, by omega, rfl, by omega, Nat.le_refl _, Nat.le_refl _, SubX.refl _ _ _ _ _ _, by simpa [cntI, sumNat, ← hg] using hD, by simp⟩
end Go.Proofs.Ytjlkndkedknocaa
namespace Go.Ai
theorem readyL_snoc (R : List (List Int)) (r : List Int) (j : Nat) : readyL (R ++ [r]) j = if lastW r = j then readyL R j ++ [r] else readyL R j := by
 unfold readyL
 rw [List.filter_append]
 by_cases h : lastW r = j
 ·rw [if_pos h]; simp [h]
 ·rw [if_neg h]; simp [h]
theorem readyL_le (R : List (List Int)) (j : Nat) : (readyL R j).length ≤ R.length := List.length_filter_le _ _
theorem lastW_take {w : List Int} {i : Nat} (h : i < w.length) : lastW (w.take (i + 1)) = max (lastW (w.take i)) (nth w i).natAbs := by
 unfold lastW
 rw [List.take_add_one, List.getElem?_eq_getElem h, List.foldl_append, nth_eq h]
 rfl
end Go.Ai
namespace Go.Proofs.Ytjlkndkedknocaa
open Go Go.Ai
attribute [local instance] Classical.propDecidable
def ReadyS (hb h : List O) (lo : Nat) (v : Value) (R : List (List Int)) : Prop :=
 ∃ ws, OwnS h lo v R.length ws 34 1 ∧ ∀ q, q < R.length → ∃ w, ws[q]? = some w ∧ Ints hb w (nthR R q)
theorem ReadyS.mat {hb h : List O} {lo : Nat} {v : Value} {R : List (List Int)} (k : ReadyS hb h lo v R) (hs : ∀ w xs, Ints hb w xs → Ints h w xs) (hl : R.length < 2 ^ 62) : Mat h v R := by
 obtain ⟨ws, ⟨h1, h2⟩, h3⟩ := k
 rcases h2 with ⟨rfl, h0⟩ | ⟨b, s, rfl, hb, hc, _⟩
 ·have : R = [] := List.length_eq_zero_iff.1 h0
  subst this
  exact ⟨none, 0, 0, 0, fun _ => undef, rfl, fun h => absurd h (by simp), fun i hi => absurd hi (by simp), by simp⟩
 ·refine ⟨_, b, 0, R.length, fun q => (ws[q]?).getD undef, rfl, fun _ => rfl, fun q hq => ?_, hl⟩
  obtain ⟨w, r1, r2⟩ := h3 q hq
  exact ⟨by rw [rd_def, hc, Nat.zero_add]; simp [r1], by simp only [r1, Option.getD_some]; exact hs _ _ r2⟩
theorem ReadyS.keep {hb h h' : List O} {lo : Nat} {v : Value} {R : List (List Int)} (k : ReadyS hb h lo v R) (hk : ∀ b n c, v = .slice (some ⟨b, 0, none⟩) n c → lo ≤ b → ∀ o, h[b]? = some o → h'[b]? = some o) : ReadyS hb h' lo v R := by
 obtain ⟨ws, h1, h3⟩ := k
 refine ⟨ws, h1.keep fun b s e1 e2 => ?_, h3⟩
 rcases h1.2 with ⟨z1, _⟩ | ⟨b2, s2, z1, z2, z3, _⟩
 ·rw [z1] at e1; cases e1
 ·have e1' := e1
  rw [z1] at e1
  simp only [Value.slice.injEq, Option.some.injEq, Addr.mk.injEq] at e1
  exact hk b _ _ e1' (by omega) _ e2
structure RdI (hb h : List O) (lo Rb gens : Nat) (R : List (List Int)) (rv : List Value) : Prop where
 at_ : h[Rb]? = some (.cells rv 48 (some 0))
 len : rv.length = gens + 1
 lt : Rb < lo
 lo_ : lo ≤ h.length
 each : ∀ j, j < gens + 1 → ∃ v, rv[j]? = some v ∧ ReadyS hb h lo v (readyL R j)
 apart : ∀ (j j' b n c n' c' : Nat), j ≠ j' → rv[j]? = some (Value.slice (some ⟨b, 0, none⟩) n c) → rv[j']? = some (Value.slice (some ⟨b, 0, none⟩) n' c') → False
theorem ReadyS.blk {hb h : List O} {lo : Nat} {v : Value} {R : List (List Int)} (k : ReadyS hb h lo v R) : (v = .slice none 0 0 ∧ R = []) ∨ ∃ b, v = .slice (some ⟨b, 0, none⟩) R.length R.length ∧ lo ≤ b ∧ b < h.length := by
 obtain ⟨ws, ⟨h1, h2⟩, h3⟩ := k
 rcases h2 with ⟨rfl, h0⟩ | ⟨b, s, rfl, hb, hc, _⟩
 ·exact .inl ⟨rfl, List.length_eq_zero_iff.1 h0⟩
 ·exact .inr ⟨b, rfl, hb, (List.getElem?_eq_some_iff.1 hc).1⟩
theorem RdI.add {hb h : List O} {lo Rb gens fl : Nat} {R : List (List Int)} {rv : List Value} {r : List Int} {w : Value} (hI : RdI hb h lo Rb gens R rv) (hw : Ints hb w r) (hw1 : one1 w = true) (hl : lastW r < gens + 1) (hR : R.length ≤ 100000) :
  ∃ v, rv[lastW r]? = some v ∧ (v = .slice none 0 0 ∨ ∃ b n, v = .slice (some ⟨b, 0, none⟩) n n ∧ lo ≤ b) ∧ ∃ b' n' H4 f4, appendV 34 1 24 v (.slice (some ⟨h.length, 0, none⟩) 1 1) ⟨h ++ [.cells [w] 34 (some 0)], fl⟩ = some (.slice (some ⟨b', 0, none⟩) n' n', ⟨H4, f4⟩) ∧ min fl lo ≤ f4 ∧ f4 ≤ fl ∧
   (∀ (b : Nat) (o : O), b < lo → h[b]? = some o → H4[b]? = some o) ∧ h.length ≤ H4.length ∧
   RdI hb (H4.set Rb (.cells (rv.set (lastW r) (.slice (some ⟨b', 0, none⟩) n' n')) 48 (some 0))) lo Rb gens (R ++ [r]) (rv.set (lastW r) (.slice (some ⟨b', 0, none⟩) n' n')) := by
 obtain ⟨v, hv, hS⟩ := hI.each _ hl
 have hblk := hS.blk
 have hS' := hS
 obtain ⟨ws, hown0, hrows⟩ := hS'
 have hread : readSlice (h ++ [.cells [w] 34 (some 0)]) 1 1 (some ⟨h.length, 0, none⟩) = some [w] := by simp [readSlice, rdN_at0]
 have hrl := readyL_le R (lastW r)
 have hlo := hI.lo_
 obtain ⟨b', H4, f4, happ, hb', hown, hf1, hf2, hL4, K4⟩ := append_S (fl := fl) (c := 1) (bytes := 24) (hown0.ext (Ext.snoc h [.cells [w] 34 (some 0)])) hread (by simp) (by simp [hw1]) (by simp; omega) (by simp only [roomMax]; omega) (by omega)
 have hbase : ∀ (b : Nat) (o : O), (∀ n c, v ≠ .slice (some ⟨b, 0, none⟩) n c) → h[b]? = some o → H4[b]? = some o := fun b o hn hb => K4 b o (app_of hb _) hn
 have hlow : ∀ b, b < lo → ∀ n c, v ≠ .slice (some ⟨b, 0, none⟩) n c := fun b hb n c e => by
  rcases hblk with ⟨z, _⟩ | ⟨b2, z, z2, _⟩
  ·rw [z] at e; cases e
  ·rw [z] at e
   simp only [Value.slice.injEq, Option.some.injEq, Addr.mk.injEq] at e
   omega
 have hRb := hI.lt
 have hb'' : h.length + 1 ≤ b' := by simpa using hb'
 have hL4' : h.length + 1 ≤ H4.length := by simpa using hL4
 refine ⟨v, hv, ?_, b', _, H4, f4, happ, hf1, hf2, fun b o hb ho => hbase b o (hlow b hb) ho, by omega, ?_⟩
 ·rcases hblk with ⟨z, _⟩ | ⟨b2, z, z2, _⟩
  ·exact .inl z
  ·exact .inr ⟨b2, _, z, z2⟩
 refine ⟨set_self (hbase _ _ (hlow _ hRb) hI.at_), by simp [hI.len], hRb, by simp; omega, fun j hj => ?_, fun j j' b n c n' c' hne e1 e2 => ?_⟩
 ·rw [readyL_snoc]
  by_cases e : j = lastW r
  ·rw [e, if_pos rfl]
   refine ⟨_, List.getElem?_set_self (by rw [hI.len]; exact hl), ws ++ [w], ?_, fun q hq => ?_⟩
   ·have : OwnS H4 lo (.slice (some ⟨b', 0, none⟩) ((readyL R (lastW r)).length + 1) ((readyL R (lastW r)).length + 1)) (readyL R (lastW r) ++ [r]).length (ws ++ [w]) 34 1 := by simpa using hown
    exact this.keep fun b s z1 z2 => set_ne z2 (by simp at z1; omega)
   ·have hwl : ws.length = (readyL R (lastW r)).length := by have := hown0.1; omega
    simp at hq
    by_cases eq : q < (readyL R (lastW r)).length
    ·obtain ⟨w', r1, r2⟩ := hrows q eq
     refine ⟨w', by rw [List.getElem?_append_left (by omega)]; exact r1, ?_⟩
     rw [nthR_snoc, if_pos eq]; exact r2
    ·have eq2 : q = (readyL R (lastW r)).length := by omega
     refine ⟨w, by rw [List.getElem?_append_right (by omega), hwl, eq2]; simp, ?_⟩
     rw [nthR_snoc, if_neg eq, if_pos eq2]; exact hw
  ·rw [if_neg (Ne.symm e)]
   obtain ⟨v2, q1, q2⟩ := hI.each j hj
   refine ⟨v2, by rw [List.getElem?_set_ne (Ne.symm e)]; exact q1, q2.keep fun b n c z1 z2 o z3 => set_ne (hbase b o (fun n' c' z4 => ?_) z3) (by omega)⟩
   rw [z1] at q1
   rw [z4] at hv
   exact hI.apart j (lastW r) b n c n' c' e q1 hv
 ·have hnew : ∀ j b n c, j ≠ lastW r → rv[j]? = some (.slice (some ⟨b, 0, none⟩) n c) → b < h.length := fun j b n c hj hz => by
   have hjl := (List.getElem?_eq_some_iff.1 hz).1
   rw [hI.len] at hjl
   obtain ⟨v2, q1, q2⟩ := hI.each j hjl
   rw [hz] at q1
   obtain rfl := Option.some.inj q1
   rcases q2.blk with ⟨z, _⟩ | ⟨b2, z, _, z2⟩
   ·cases z
   ·simp only [Value.slice.injEq, Option.some.injEq, Addr.mk.injEq] at z
    omega
  by_cases ej : j = lastW r
  ·rw [ej, List.getElem?_set_self (by rw [hI.len]; exact hl)] at e1
   simp only [Option.some.injEq, Value.slice.injEq, Addr.mk.injEq] at e1
   rw [List.getElem?_set_ne (by omega)] at e2
   have := hnew j' b n' c' (by omega) e2
   omega
  ·rw [List.getElem?_set_ne (Ne.symm ej)] at e1
   by_cases ej' : j' = lastW r
   ·rw [ej', List.getElem?_set_self (by rw [hI.len]; exact hl)] at e2
    simp only [Option.some.injEq, Value.slice.injEq, Addr.mk.injEq] at e2
    have := hnew j b n c ej e1
    omega
   ·rw [List.getElem?_set_ne (Ne.symm ej')] at e2
    exact hI.apart j j' b n c n' c' hne e1 e2
end Go.Proofs.Ytjlkndkedknocaa
namespace Go.Ai
theorem DC.kept {E : Env} (hS : SumsKept E) {f : FuncId} {args : List Value} {st : St} {Q : Out → St → Prop} (h : DC E f args st Q) : DC E f args st fun o st' => Q o st' ∧ Kept st st' := by
 obtain ⟨o, st', ⟨n, h1⟩, h2⟩ := h
 exact ⟨o, st', ⟨n, h1⟩, h2, callKept_of hS (exec_kept hS n) _ _ _ _ _ h1⟩
theorem visL_perm {n : Nat} : ∀ (m : Nat) (f : List Int), f.length + m = n → InN n f → (∀ i j, i < j → j < f.length → nth f i ≠ nth f j) → ∀ g ∈ visL n m f, PermL n g := by
 intro m
 induction m with
 | zero =>
  intro f hl hi hd g hg
  simp only [visL, List.mem_singleton] at hg
  subst hg
  exact ⟨by omega, hi, fun i j h1 h2 => hd i j h1 (by omega)⟩
 | succ m ih =>
  intro f hl hi hd g hg
  simp only [visL, List.mem_flatMap, List.mem_range] at hg
  obtain ⟨x, hx, hg⟩ := hg
  split at hg
  ·simp at hg
  ·rename_i hnot
   have hs : ∀ i, nth (f ++ [(x : Int)]) i = if i < f.length then nth f i else if i = f.length then (x : Int) else 0 := fun i => by
    unfold nth
    by_cases h : i < f.length
    ·rw [if_pos h]; simp [List.getD_eq_getElem?_getD, List.getElem?_append_left h]
    ·rw [if_neg h, List.getD_eq_getElem?_getD, List.getElem?_append_right (by omega)]
     by_cases e : i = f.length
     ·rw [if_pos e, e]; simp
     ·rw [if_neg e, List.getElem?_eq_none (by simp; omega)]; rfl
   refine ih _ (by simp; omega) (fun i hi' => ?_) (fun i j h1 h2 => ?_) g hg
   ·rw [hs]
    simp at hi'
    by_cases h : i < f.length
    ·rw [if_pos h]; exact hi i h
    ·rw [if_neg h, if_pos (by omega)]; omega
   ·simp at h2
    rw [hs, hs, if_pos (by omega)]
    by_cases h : j < f.length
    ·rw [if_pos h]; exact hd i j h1 h
    ·rw [if_neg h, if_pos (by omega)]
     intro e
     exact hnot (e ▸ nth_mem (by omega))
theorem permL_perm {n q : Nat} (h : q < (permL n).length) : PermL n (nthR (permL n) q) :=
 visL_perm n [] (by simp) (fun i hi => by simp at hi) (fun i j _ h => by simp at h) _ (nthR_mem h)
theorem permL_le {n : Nat} (hn : n ≤ 6) : (permL n).length ≤ 46656 := by
 have h0 := visL_le n n []
 have h1 : n ^ n ≤ 6 ^ n := Nat.pow_le_pow_left hn n
 have h2 : 6 ^ n ≤ 6 ^ 6 := Nat.pow_le_pow_right (by omega) hn
 have h3 : (permL n).length ≤ n ^ n := h0
 omega
end Go.Ai
namespace Go.Proofs.Ytjlkndkedknocaa
open Go Go.Ai
attribute [local instance] Classical.propDecidable
variable {E : Env} (hE : OE E)
include hE
theorem round57 {h : List O} {k pO : Nat} {frL : Fr} {v : Value} {c : Int} (hk : h[k]? = some (.loop false 43 frL [39] (lcA 57 0) (lcB 57 0))) (g9 : get frL 9 = .pointer (some ⟨pO, 0, none⟩)) (hO : h[pO]? = some (.cells [.int .i64 c] 3 (some 0))) (hc : 0 ≤ c ∧ c ≤ 10000000000) :
  DR E (yB + k) [v] ⟨h, h.length⟩ (.ret (.bool true)) ⟨h.set pO (.cells [.int .i64 (c + 1)] 3 (some 0)), min pO k⟩ := by
 have n1 : k ≠ pO := fun e => by subst e; rw [hk] at hO; cases hO
 have lk := (List.getElem?_eq_some_iff.1 hk).1
 have lO := (List.getElem?_eq_some_iff.1 hO).1
 have hDC : DC E (yB + k) [v] ⟨h, h.length⟩ fun o st' => o = .ret (.bool true) ∧ st' = ⟨h.set pO (.cells [.int .i64 (c + 1)] 3 (some 0)), min pO k⟩ := by
  refine DC_yield (hE.Y k) hk rfl hE.c57_0a hE.c57_0b ?_
  unfold ra57_0
  simp [putAll]
  refine ⟨_, turn_eq hk, ?_⟩
  unfold rl57_0
  obtain ⟨H1, hH1⟩ : ∃ H, H = h.set k (O.loop (!false) 43 frL [39] (lcA 57 0) (lcB 57 0)) := ⟨_, rfl⟩
  have hO1 : H1[pO]? = some (.cells [.int .i64 c] 3 (some 0)) := by rw [hH1]; exact set_ne hO (Ne.symm n1)
  have hk1 : H1[k]? = some (O.loop (!false) 43 frL [39] (lcA 57 0) (lcB 57 0)) := by rw [hH1]; exact set_self hk
  have hw : IntKind.i64.wrap (c + 1) = c + 1 := by rw [w64_id] <;> omega
  rw [← hH1]
  simp [g9, rd_def, hO1, hw, wrN_def]
  have hk2 : (H1.set pO (.cells [.int .i64 (c + 1)] 3 (some 0)))[k]? = some (O.loop (!false) 43 frL [39] (lcA 57 0) (lcB 57 0)) := set_ne hk1 n1
  have ht := turn_eq (f := min h.length (min k pO)) hk2
  simp only [Bool.not_false, Bool.not_true] at ht
  rw [ht]
  have hm : min (min h.length (min k pO)) k = min pO k := by omega
  rw [hm]
  congr 2
  apply List.ext_getElem?
  intro i
  rw [hH1]
  simp only [List.getElem?_set, List.length_set]
  by_cases e1 : k = i
  ·subst e1
   simp [lk, Ne.symm n1, hk]
   have := (List.getElem?_eq_some_iff.1 hk).2
   exact this.symm
  ·simp [e1]
 obtain ⟨o, st', h1, rfl, rfl⟩ := hDC
 exact h1
end Go.Proofs.Ytjlkndkedknocaa
