/- Texts that were built one by one: Or1, Oh, Wp1, Wa1, Wa2, Wa3, Wa4, Wa5, Wc1, Od18, Wc2, Wr4, Wr5, Wr6, Wr1, Wr2, Ra1, Ra2, Ra3, Ra4. -/
import Derived.Test.YtjlkndkedknocaaAiFm
import Derived.Test.YtjlkndkedknocaaMd
import Derived.Test.YtjlkndkedknocaaChecked
import Derived.KernelRfl
import Derived.Test.YtjlkndkedknocaaMe
import Derived.Test.YtjlkndkedknocaaRows
import Derived.WalkKit
import Derived.ProofKit
import Derived.OpenShut
import Derived.SizedLaws
set_option linter.unusedSimpArgs false
set_option linter.unusedVariables false
namespace Go.Proofs.Ytjlkndkedknocaa
open Go Go.Ai
theorem follows : Try.prog.follows .mixedOrders = true := by kernel_rfl
noncomputable def mine : List Nat := (List.range rfs.length).filter fun f => (rF f).isSome
theorem codes : mine.map (compileF Try.prog) = mine.map rF := by kernel_rfl
def callableB (P : Program) (f : FuncId) : Bool := match P.funcs[f]? with
 | some fn => !(fn.name == "runtime.NumGoroutine") && fn.body.isSome
 | none => false
theorem callableB_ok {P : Program} {f : FuncId} (h : callableB P f = true) : Callable P f := by
 unfold callableB at h
 split at h
 ·rename_i fn hfn
  simp only [Bool.and_eq_true, Bool.not_eq_true', beq_eq_false_iff_ne] at h
  refine ⟨fn, hfn, h.1, fun hb => ?_⟩
  rw [hb] at h
  simp at h
 ·cases h
theorem callables : mine.all (fun f => callableB Try.prog f) = true := by kernel_rfl
theorem rF_mem {f : FuncId} {rf : RFun} (h : rF f = some rf) : f ∈ mine := by
 refine List.mem_filter.2 ⟨List.mem_range.2 ?_, by rw [h]; rfl⟩
 unfold rF at h
 cases hx : rfs[f]? with
 | none => rw [hx] at h; cases h
 | some o => exact (List.getElem?_eq_some_iff.1 hx).1
theorem map_at {α : Type} {l : List Nat} {p q : Nat → α} (h : l.map p = l.map q) {x : Nat} (hx : x ∈ l) : p x = q x := by
 obtain ⟨i, hi, rfl⟩ := List.getElem_of_mem hx
 have := congrArg (fun l => l[i]?) h
 simpa [hi] using this
theorem rF_ok {f : FuncId} {rf : RFun} (h : rF f = some rf) : compileF Try.prog f = some rf ∧ Callable Try.prog f := by
 have hm := rF_mem h
 exact ⟨(map_at codes hm).trans h, callableB_ok (List.all_eq_true.1 callables f hm)⟩
noncomputable def cmpT (nt : Nat) (c : Code) : Option R := match compile Try.prog nt c with
 | some r => if noRange r then some r else none
 | none => none
theorem cmpT_ok {nt : Nat} {c : Code} {r : R} (h : cmpT nt c = some r) : compile Try.prog nt c = some r ∧ noRange r = true := by
 unfold cmpT at h
 split at h
 ·rename_i r' hr
  split at h
  ·rename_i hn
   obtain rfl := Option.some.inj h
   exact ⟨hr, hn⟩
  ·cases h
 ·cases h
noncomputable def E0 : Env := { F := rF, S := fun _ => none, cmp := cmpT }
theorem E0_ok (B : Nat) : EnvOk Fence.wide Try.prog B E0 := ⟨fun f rf h => rF_ok h, fun f s h => (by cases h), fun f s h => (by cases h), fun nt c r h => cmpT_ok h⟩
theorem E0_kept : SumsKept E0 := fun f s h => (by cases h)
end Go.Proofs.Ytjlkndkedknocaa
namespace Go.Proofs.Ytjlkndkedknocaa
open Go Go.Ai Go.ChangeShapes Go.WideShapes Go.ChangeAt Go.RowKit
set_option maxRecDepth 4000
def crossSh : List Sh := [.int .i64, .int .i64, .int .i64, .int .i64, .int .i64]
def diagSh : List Sh := [.slice crossSh, .int .i64]
theorem shapesD : shapes Try.prog 8 24 = some diagSh := by kernel_rfl
theorem shapesI : shapes Try.prog 8 3 = some [.int .i64] := by kernel_rfl
theorem shapesM : shapes Try.prog 8 48 = some [.slice [.slice [.int .i64]]] := by kernel_rfl
theorem own : ownKnob Try.prog.godebug = none := by kernel_rfl
theorem int_of {h : List O} {v : Value} (hf : Fits h (.int .i64) v) : ∃ x, v = .int .i64 x ∧ I64 x := by
 cases hf with
 | int hw =>
  rename_i y
  refine ⟨y, rfl, ?_⟩
  have : -9223372036854775808 ≤ y ∧ y ≤ 9223372036854775807 := by simpa [Lit.wf, IntKind.min, IntKind.max, IntKind.signed, IntKind.bits] using hw
  exact this
def intOf : Option Value → Int
 | some (.int _ x) => x
 | _ => 0
theorem cross_of {h : List O} {v : Value} (hf : Fits h (.slice crossSh) v) : ∃ a n c x s, v = .slice a n c ∧ CrossP h a n x s ∧ n * 40 ≤ roomMax := by
 cases hf with
 | slice b o vs hn ha hr hv =>
  rename_i a n c
  have key : ∀ i, i < n → ∃ x0 x1 x2 x3 s, vs i = [.int .i64 x0, .int .i64 x1, .int .i64 x2, .int .i64 x3, .int .i64 s] := fun i hi => by
   have h1 := hr i hi
   have hl : (vs i).length = 5 := by
    obtain ⟨c, el, ow, _, h2, h3⟩ := rdN_block h1
    rw [h3]
    simp [crossSh] at h2 ⊢
    omega
   match hvi : vs i, hl with
   | [v0, v1, v2, v3, v4], _ =>
    obtain ⟨x0, rfl, _⟩ := int_of (hv i 0 _ v0 hi rfl (by rw [hvi]; rfl))
    obtain ⟨x1, rfl, _⟩ := int_of (hv i 1 _ v1 hi rfl (by rw [hvi]; rfl))
    obtain ⟨x2, rfl, _⟩ := int_of (hv i 2 _ v2 hi rfl (by rw [hvi]; rfl))
    obtain ⟨x3, rfl, _⟩ := int_of (hv i 3 _ v3 hi rfl (by rw [hvi]; rfl))
    obtain ⟨s, rfl, _⟩ := int_of (hv i 4 _ v4 hi rfl (by rw [hvi]; rfl))
    exact ⟨x0, x1, x2, x3, s, rfl⟩
  refine ⟨a, n, c, fun i j => intOf (vs i)[j]?, fun i => intOf (vs i)[4]?, rfl, ⟨b, o, ha, fun i hi => ?_⟩, ?_⟩
  ·obtain ⟨x0, x1, x2, x3, s, e⟩ := key i hi
   have h1 := hr i hi
   rw [show crossSh.length = 5 from rfl] at h1
   rw [h1]
   simp only [crossC, e]
   rfl
  ·have h0 := hn.1
   simp [reachBytes, szB, crossSh, roomMax] at h0 ⊢
   omega
theorem diag_of {h : List O} {cs : List Value} (hf : FitsL h diagSh cs) : ∃ a n c x s L, cs = [.slice a n c, .int .i64 L] ∧ CrossP h a n x s ∧ n * 40 ≤ roomMax := by
 obtain ⟨hl, hv⟩ := hf
 match cs, hl with
 | [v, l], _ =>
  obtain ⟨a, n, c, x, s, rfl, h1, h2⟩ := cross_of (hv 0 _ v rfl rfl)
  obtain ⟨L, rfl, _⟩ := int_of (hv 1 _ l rfl rfl)
  exact ⟨a, n, c, x, s, L, rfl, h1, h2⟩
theorem arg_of {H : Type} {enc : TypeId × Value → H} {W : World} {base : Nat} {t : TypeId} {fs : Array Field} {v : Value} {d : DataW H} {ps : List MemPlace} {shs : List Sh} (ht : Try.prog.underlying t = some (.struct fs)) (hsh : shapes Try.prog 8 t = some shs)
  (hok : Value.okWide Try.prog W .any base t v) (h : DataW.Trod enc Try.prog W 0 (fun _ => true) true t v d ps) (hw : ∀ n ∈ d.weights Try.prog t, n ≤ reachBytes) :
  ∃ cs, v = .agg cs ∧ Canon W shs cs.toList := by
 obtain ⟨fuel, hx⟩ := h
 have hok' : ∃ cs, v = .agg cs ∧ cs.size = Try.prog.cellsOf t ∧ Row.okWide Try.prog W .any base t cs := by
  unfold Value.okWide at hok
  rw [ht] at hok
  exact hok
 obtain ⟨cs, rfl, _⟩ := hok'
 exact ⟨cs, rfl, canon 8 fuel t _ (d, ps) shs hsh hx hw⟩
theorem arg1_of {H : Type} {enc : TypeId × Value → H} {W : World} {base : Nat} {t : TypeId} {v : Value} {d : DataW H} {ps : List MemPlace} {sh : Sh} (ht : (∃ e, Try.prog.underlying t = some (.slice e)) ∨ ∃ k, Try.prog.underlying t = some (.int k)) (hsh : shapes Try.prog 8 t = some [sh])
  (hok : Value.okWide Try.prog W .any base t v) (h : DataW.Trod enc Try.prog W 0 (fun _ => true) true t v d ps) (hw : ∀ n ∈ d.weights Try.prog t, n ≤ reachBytes) :
  Canon W [sh] [v] := by
 obtain ⟨fuel, hx⟩ := h
 have hv : v.cells.toList = [v] := by
  unfold Value.okWide at hok
  rcases ht with ⟨e, ht⟩ | ⟨k, ht⟩
  ·rw [ht] at hok
   simp only [Cell.okWide, ht] at hok
   cases v <;> first | rfl | (exfalso; simp [Cell.ok, ht] at hok)
  ·rw [ht] at hok
   simp only [Cell.okWide, ht] at hok
   cases v <;> first | rfl | (exfalso; simp [Cell.ok, ht] at hok)
 rw [hv] at hx
 exact canon 8 fuel t _ (d, ps) [sh] hsh hx hw
theorem single_of {ρ : RM} {h : List O} {sh : Sh} {cs : List Value} {v : Value} (hr : LRel ρ cs [v]) (hf : FitsL h [sh] cs) : ∃ w, cs = [w] ∧ VRel ρ w v ∧ Fits h sh w := by
 obtain ⟨hl, hv⟩ := hf
 match cs, hl with
 | [w], _ => exact ⟨w, rfl, hr.2 0 w v rfl rfl, hv 0 _ _ rfl rfl⟩
theorem start (W : World) : SRel W.heap.size (fun _ => none) W ⟨[], 0⟩ :=
 ⟨⟨Nat.le_refl _, fun id l h => by simp at h, fun id l h => by simp at h, fun id l h => by simp at h, fun i j li lj _ h => by simp at h⟩, fun id l h => by simp at h⟩
def zeroD : Value := .agg #[.slice none 0 0, .int .i64 0]
end Go.Proofs.Ytjlkndkedknocaa
namespace Go.Ai
attribute [local instance] Classical.propDecidable
def jn (r : Nat → Nat) (a b : Nat) : Nat → Nat := fun i => if r i = max (r a) (r b) then min (r a) (r b) else r i
structure Rep (r : Nat → Nat) : Prop where
 le : ∀ i, r i ≤ i
 idem : ∀ i, r (r i) = r i
theorem jn_cases (r : Nat → Nat) (a b i : Nat) : (r i = max (r a) (r b) ∧ jn r a b i = min (r a) (r b)) ∨ (r i ≠ max (r a) (r b) ∧ jn r a b i = r i) := by
 unfold jn
 by_cases h : r i = max (r a) (r b)
 ·exact .inl ⟨h, if_pos h⟩
 ·exact .inr ⟨h, if_neg h⟩
theorem jn_ends (r : Nat → Nat) (a b : Nat) : (max (r a) (r b) = r a ∧ min (r a) (r b) = r b) ∨ (max (r a) (r b) = r b ∧ min (r a) (r b) = r a) := by omega
theorem Rep.jn {r : Nat → Nat} (h : Rep r) (a b : Nat) : Rep (jn r a b) := by
 have hm : r (min (r a) (r b)) = min (r a) (r b) := by
  rcases jn_ends r a b with ⟨_, e⟩ | ⟨_, e⟩
  ·rw [e]; exact h.idem b
  ·rw [e]; exact h.idem a
 refine ⟨fun i => ?_, fun i => ?_⟩
 ·have := h.le i
  rcases jn_cases r a b i with ⟨h1, h2⟩ | ⟨h1, h2⟩ <;> omega
 ·rcases jn_cases r a b i with ⟨h1, h2⟩ | ⟨h1, h2⟩
  ·rw [h2]
   rcases jn_cases r a b (min (r a) (r b)) with ⟨h3, h4⟩ | ⟨h3, h4⟩
   ·exact h4
   ·rw [h4]; exact hm
  ·rw [h2]
   rcases jn_cases r a b (r i) with ⟨h3, h4⟩ | ⟨h3, h4⟩
   ·rw [h.idem i] at h3; exact absurd h3 h1
   ·rw [h4]; exact h.idem i
theorem jn_eq (r : Nat → Nat) (a b : Nat) : jn r a b a = jn r a b b := by
 rcases jn_cases r a b a with ⟨h1, h2⟩ | ⟨h1, h2⟩ <;> rcases jn_cases r a b b with ⟨h3, h4⟩ | ⟨h3, h4⟩ <;> omega
theorem jn_mono {r : Nat → Nat} {a b i j : Nat} (h : r i = r j) : jn r a b i = jn r a b j := by unfold jn; rw [h]
theorem jn_const {α : Type} {f : Nat → α} {r : Nat → Nat} {a b : Nat} (h : ∀ i, f (r i) = f i) (e : f a = f b) (i : Nat) : f (jn r a b i) = f i := by
 rcases jn_cases r a b i with ⟨h1, h2⟩ | ⟨h1, h2⟩
 ·rw [h2, ← h i, h1]
  rcases jn_ends r a b with ⟨e1, e2⟩ | ⟨e1, e2⟩
  ·rw [e1, e2, h a, h b, e]
  ·rw [e1, e2, h a, h b, e]
 ·rw [h2, h i]
def archR (X : Nat → Nat → Nat) : Nat → Nat → Nat
 | 0 => fun i => i
 | c + 1 => jn (archR X c) (X c 1) (X c 3)
theorem archR_rep (X : Nat → Nat → Nat) : ∀ k, Rep (archR X k) := by
 intro k
 induction k with
 | zero => exact ⟨fun i => Nat.le_refl _, fun i => rfl⟩
 | succ k ih => exact ih.jn _ _
theorem archR_eq (X : Nat → Nat → Nat) : ∀ k c, c < k → archR X k (X c 1) = archR X k (X c 3) := by
 intro k
 induction k with
 | zero => intro c h; omega
 | succ k ih =>
  intro c h
  rcases Nat.lt_or_ge c k with h1 | h1
  ·exact jn_mono (ih c h1)
  ·have : c = k := by omega
   subst this
   exact jn_eq _ _ _
theorem archR_const {α : Type} {f : Nat → α} {X : Nat → Nat → Nat} : ∀ k, (∀ c, c < k → f (X c 1) = f (X c 3)) → ∀ i, f (archR X k i) = f i := by
 intro k
 induction k with
 | zero => intro _ i; rfl
 | succ k ih => intro h i; exact jn_const (fun i => ih (fun c hc => h c (by omega)) i) (h k (by omega)) i
noncomputable def cntR (r : Nat → Nat) (i : Nat) : Nat := cntP (fun b => r b = b) i
theorem cntR_succ (r : Nat → Nat) (i : Nat) : cntR r (i + 1) = if r i = i then cntR r i + 1 else cntR r i := by
 unfold cntR
 simp only [cntP]
 split <;> rfl
structure UF (r : Nat → Nat) (N : Nat) (up : List Int) : Prop where
 rep : Rep r
 len : up.length = N
 at_ : ∀ i, i < N → ∃ u : Nat, nth up i = u ∧ u ≤ i ∧ r u = r i ∧ (u = i ↔ r i = i)
theorem UF.join {r : Nat → Nat} {N a b : Nat} {up : List Int} (h : UF r N up) (ha : a < N) (hb : b < N) : UF (jn r a b) N (up.set (max (r a) (r b)) ((min (r a) (r b) : Nat) : Int)) := by
 have hM : max (r a) (r b) < up.length := by
  have h1 := h.rep.le a
  have h2 := h.rep.le b
  have h3 := h.len
  omega
 refine ⟨h.rep.jn a b, by simp [h.len], fun i hi => ?_⟩
 have hRM : r (max (r a) (r b)) = max (r a) (r b) := by
  rcases jn_ends r a b with ⟨e, _⟩ | ⟨e, _⟩
  ·rw [e]; exact h.rep.idem a
  ·rw [e]; exact h.rep.idem b
 have hRm : r (min (r a) (r b)) = min (r a) (r b) := by
  rcases jn_ends r a b with ⟨_, e⟩ | ⟨_, e⟩
  ·rw [e]; exact h.rep.idem b
  ·rw [e]; exact h.rep.idem a
 rw [nth_set hM]
 by_cases e : i = max (r a) (r b)
 ·rw [if_pos e]
  refine ⟨_, rfl, by omega, ?_, ?_⟩
  ·have h1 := jn_cases r a b i
   have h2 := jn_cases r a b (min (r a) (r b))
   rw [e] at h1 ⊢
   rw [hRM] at h1
   rw [hRm] at h2
   omega
  ·have h1 := jn_cases r a b i
   rw [e] at h1 ⊢
   rw [hRM] at h1
   omega
 ·rw [if_neg e]
  obtain ⟨u, h1, h2, h3, h4⟩ := h.at_ i hi
  refine ⟨u, h1, h2, jn_mono h3, ?_⟩
  rcases jn_cases r a b i with ⟨h5, h6⟩ | ⟨h5, h6⟩
  ·have := h.rep.le i
   rw [h6]
   constructor
   ·intro hu
    have := h4.1 hu
    omega
   ·intro hm
    omega
  ·rw [h6]; exact h4
end Go.Ai
namespace Go.Proofs.Ytjlkndkedknocaa
open Go Go.Ai
attribute [local instance] Classical.propDecidable
variable {E : Env} (hE : OE E)
include hE
theorem root_ {h : List O} {pl b N c : Nat} {up : List Int} {r : Nat → Nat} {el : TypeId} {own : Option Nat} (hp : rd h pl 0 = some (.slice (some ⟨b, 0, none⟩) N c)) (hb : h[b]? = some (.cells (intsC up) el own)) (hU : UF r N up) {i : Nat} (hi : i < N) :
  DR E 185 [.pointer (some ⟨pl, 0, none⟩), .int .i64 i] ⟨h, h.length⟩ (.ret (.int .i64 (r i))) ⟨h, h.length⟩ := by
 refine hE.fn (body := rb185) rfl ?_
 unfold rb185
 simp
 refine DW_loop (fun kk fr st => ∃ (j : Nat), j = kk ∧ j < N ∧ r j = r i ∧ st = ⟨h, h.length⟩ ∧ get fr 0 = .pointer (some ⟨pl, 0, none⟩) ∧ get fr 1 = .int .i64 j) ?_ (k := i) ?_
 ·rintro kk fr st ⟨j, rfl, hj, hr, rfl, g0, g1⟩
  obtain ⟨u, h1, h2, h3, h4⟩ := hU.at_ j hj
  have hjl : j < up.length := by rw [hU.len]; exact hj
  by_cases hu : u = j
  ·have hrj := h4.1 hu
   simp [g0, g1, hp, rd_def, hb, hj, intsC_get hjl, h1, hu]
   have hp' := hp
   rw [rd_def] at hp'
   simp [hp', hb, hj, intsC_get hjl, h1, hu, endK_ret, ← hr, hrj]
  ·have hp' := hp
   rw [rd_def] at hp'
   have hlt : u < j := by omega
   simp [g0, g1, rd_def, hp', hb, hj, intsC_get hjl, h1, hu]
   exact ⟨u, hlt, by omega, by omega, rfl⟩
 ·exact ⟨i, rfl, hi, rfl, rfl, by simp⟩
theorem joinW_ {h : List O} {pl b N c : Nat} {up : List Int} {r : Nat → Nat} {el : TypeId} {s : Nat} (hp : rd h pl 0 = some (.slice (some ⟨b, 0, none⟩) N c)) (hb : h[b]? = some (.cells (intsC up) el (some s))) (hU : UF r N up) {i j : Nat} (hi : i < N) (hj : j < N) :
  DR E 184 [.pointer (some ⟨pl, 0, none⟩), .int .i64 i, .int .i64 j] ⟨h, h.length⟩ (.ret (.tuple #[])) ⟨h.set b (.cells (intsC (up.set (max (r i) (r j)) ((min (r i) (r j) : Nat) : Int))) el (some s)), b⟩ := by
 refine hE.fn (body := rb184) rfl ?_
 unfold rb184
 have r1 := root_ hE hp hb hU hi
 have r2 := root_ hE hp hb hU hj
 have hbl := (List.getElem?_eq_some_iff.1 hb).1
 have hM : max (r i) (r j) < N := by
  have h1 := hU.rep.le i
  have h2 := hU.rep.le j
  omega
 have hmx : max ((r i : Nat) : Int) (r j) = ((max (r i) (r j) : Nat) : Int) := by omega
 have hmn : min ((r i : Nat) : Int) (r j) = ((min (r i) (r j) : Nat) : Int) := by omega
 generalize max (r i) (r j) = M at hM hmx ⊢
 generalize min (r i) (r j) = m at hmn ⊢
 have hl := hU.len
 have hM2 : M + 1 ≤ up.length := by omega
 have hp' := hp
 rw [rd_def] at hp'
 simp [DC_of r1, DC_of r2, rd_def, hp', hmx, hmn, hM, wrN_def, hb, hM2, intsC_set, endK_normal]
 unfold pairQ back
 rw [if_neg (by simp; omega)]
 simp [Nat.min_eq_right (Nat.le_of_lt hbl)]
end Go.Proofs.Ytjlkndkedknocaa
namespace Go.Ai
attribute [local instance] Classical.propDecidable
theorem atG_fresh {κ : Type} {k : κ} : ∀ {l : List (κ × Value × Nat)} {i : Nat}, (∀ y ∈ l, k ≠ y.1) → atG k l i = none := by
 intro l
 induction l with
 | nil => intro i _; rfl
 | cons y l ih =>
  intro i h
  simp only [atG]
  rw [if_neg (h y (by simp))]
  exact ih fun z hz => h z (by simp [hz])
theorem updS_fresh {κ : Type} {kc : κ → List Value} {shape : List (Option IntKind)} (K : KeyOk kc shape) {l : List (κ × Value × Nat)} {h : List O} {f b clock : Nat} (hb : h[b]? = some (.map (l.map (entG kc)) clock)) {k : κ} (hn : ∀ y ∈ l, k ≠ y.1) (v : Value) :
  updS shape true ⟨h, f⟩ (.map (some b)) (.agg (kc k).toArray) v = some (.val undef, ⟨h.set b (.map ((l ++ [(k, v, clock)]).map (entG kc)) (clock + 1)), min f b⟩) := by
 simp only [updS, hb, findK_G K, bind, Option.bind_some, atG_fresh hn]
 simp [entG]
def idL (i : Nat) : List Int := (List.range i).map fun (j : Nat) => (j : Int)
theorem idL_succ (i : Nat) : idL (i + 1) = idL i ++ [(i : Int)] := by simp [idL, List.range_succ]
theorem idL_length (i : Nat) : (idL i).length = i := by simp [idL]
theorem idL_nth {i j : Nat} (h : j < i) : nth (idL i) j = j := by simp [idL, nth, h]
theorem UF.start (N : Nat) : UF (fun i => i) N (idL N) := ⟨⟨fun i => Nat.le_refl _, fun i => rfl⟩, idL_length N, fun i hi => ⟨i, idL_nth hi, Nat.le_refl _, rfl, by simp⟩⟩
def tabL (f : Nat → Int) (n : Nat) : List Int := (List.range n).map f
theorem tabL_length (f : Nat → Int) (n : Nat) : (tabL f n).length = n := by simp [tabL]
theorem tabL_nth {f : Nat → Int} {n j : Nat} (h : j < n) : nth (tabL f n) j = f j := by simp [tabL, nth, h]
theorem eq_tabL {xs : List Int} {f : Nat → Int} {n : Nat} (hl : xs.length = n) (h : ∀ j, j < n → nth xs j = f j) : xs = tabL f n := by
 apply List.ext_getElem (by rw [hl, tabL_length])
 intro j h1 h2
 have := h j (by omega)
 rw [nth_eq (by omega)] at this
 rw [this, ← nth_eq, tabL_nth (by omega)]
end Go.Ai
namespace Go.Proofs.Ytjlkndkedknocaa
open Go Go.Ai
attribute [local instance] Classical.propDecidable
def arR (G : Dg) : Nat → Nat := archR G.X G.n
noncomputable def arN (G : Dg) (a : Nat) : Nat := cntR (arR G) (arR G a)
noncomputable def arC (G : Dg) : Nat := cntR (arR G) (2 * G.n)
noncomputable def arL (G : Dg) : List Int := tabL (fun a => (arN G a : Int)) (2 * G.n)
theorem arR_rep (G : Dg) : Rep (arR G) := archR_rep _ _
theorem arN_lt {G : Dg} {a : Nat} (ha : a < 2 * G.n) : arN G a < arC G := by
 have h := arR_rep G
 have h1 := h.le a
 unfold arN arC cntR
 have h2 := cntP_mono (fun b => arR G b = b) (show arR G a + 1 ≤ 2 * G.n by omega)
 simp only [cntP] at h2
 rw [if_pos (h.idem a)] at h2
 omega
theorem arC_le (G : Dg) : arC G ≤ 2 * G.n := cntP_le _ _
def inP (s : Int) : Nat := if s < 0 then 1 else 3
def lE (X : Nat → Nat → Nat) (s : Nat → Int) : Nat → List ((Nat × Nat) × Value × Nat)
 | 0 => []
 | c + 1 => (lE X s c ++ [((c, 0), .int .i64 (X c 0), 2 * c)]) ++ [((c, inP (s c)), .int .i64 (X c (inP (s c))), 2 * c + 1)]
theorem lE_lt {X : Nat → Nat → Nat} {s : Nat → Int} : ∀ {c : Nat}, ∀ y ∈ lE X s c, y.1.1 < c := by
 intro c
 induction c with
 | zero => intro y h; simp [lE] at h
 | succ c ih =>
  intro y h
  simp only [lE, List.mem_append, List.mem_singleton] at h
  rcases h with (h | rfl) | rfl
  ·have := ih y h; omega
  ·simp
  ·simp
def linkC (u : Value) (xa : Option Addr) (n xc : Nat) (L : Int) (av : Value) (cnt : Int) (cv : Value) (k : Int) (mv : Value) : List Value :=
 [u, .slice xa n xc, .int .i64 L, av, .int .i64 cnt, cv, .int .i64 k, mv]
def LinkP (h : List O) (pl n : Nat) (x : Nat → Nat → Int) (s : Nat → Int) (L : Int) (k : Nat) (xs : List Int) : Prop :=
 ∃ uv xa xc ab cb mb, h[pl]? = some (.cells (linkC uv xa n xc L (.slice (some ⟨ab, 0, none⟩) (2 * n) (2 * n)) (arC (dgOf n x s L) + L) (.slice (some ⟨cb, 0, none⟩) (2 * n) (2 * n)) (k + L) (.map (some mb))) 170 (some 0)) ∧
  CrossP h xa n x s ∧ h[ab]? = some (.cells (intsC (arL (dgOf n x s L))) 3 (some 0)) ∧ h[cb]? = some (.cells (intsC xs) 3 (some 0)) ∧
  h[mb]? = some (.map ((lE (dgOf n x s L).X s n).map (entG kcII)) (2 * n)) ∧ OrbI (2 * n) (nx (dgOf n x s L)) (2 * n) k xs ∧ k ≤ 2 * n
theorem LinkP.sub {h h' : List O} {pl n : Nat} {x : Nat → Nat → Int} {s : Nat → Int} {L : Int} {k : Nat} {xs : List Int} (hl : LinkP h pl n x s L k xs) (e : Sub h h') : LinkP h' pl n x s L k xs := by
 obtain ⟨uv, xa, xc, ab, cb, mb, h1, h2, h3, h4, h5, h6⟩ := hl
 exact ⟨uv, xa, xc, ab, cb, mb, e _ _ h1, h2.sub e, e _ _ h3, e _ _ h4, e _ _ h5, h6⟩
end Go.Proofs.Ytjlkndkedknocaa
namespace Go.Proofs.Ytjlkndkedknocaa
open Go Go.Ai
attribute [local instance] Classical.propDecidable
structure LkI (h0 h : List O) (a : Option Addr) (n c : Nat) (L : Int) (N : Nat) (uv : Value) (ar : List Int) (es : List MapEntry) (clock : Nat) (cnt : Int) : Prop where
 sub : Sub h0 h
 dg : AtB h h0.length (.cells [.slice a n c, .int .i64 L] 24 (some 0))
 ar : AtB h (h0.length + 1) (.cells (intsC ar) 3 (some 0))
 mp : AtB h (h0.length + 2) (.map es clock)
 lk : AtB h (h0.length + 3) (.cells (linkC uv a n c L (.slice (some ⟨h0.length + 1, 0, none⟩) N N) cnt (.slice none 0 0) 0 (.map (some (h0.length + 2)))) 170 (some 0))
theorem LkI.app {h0 h : List O} {a : Option Addr} {n c : Nat} {L : Int} {N : Nat} {uv : Value} {ar : List Int} {es : List MapEntry} {clock : Nat} {cnt : Int} (k : LkI h0 h a n c L N uv ar es clock cnt) (l : List O) : LkI h0 (h ++ l) a n c L N uv ar es clock cnt :=
 ⟨k.sub.app l, app_of k.dg l, app_of k.ar l, app_of k.mp l, app_of k.lk l⟩
theorem LkI.set {h0 h : List O} {a : Option Addr} {n c : Nat} {L : Int} {N : Nat} {uv : Value} {ar : List Int} {es : List MapEntry} {clock : Nat} {cnt : Int} (k : LkI h0 h a n c L N uv ar es clock cnt) {b : Nat} (hb : h0.length + 4 ≤ b) (o : O) : LkI h0 (h.set b o) a n c L N uv ar es clock cnt :=
 ⟨k.sub.set (by omega) o, set_ne k.dg (by omega), set_ne k.ar (by omega), set_ne k.mp (by omega), set_ne k.lk (by omega)⟩
theorem LkI.setM {h0 h : List O} {a : Option Addr} {n c : Nat} {L : Int} {N : Nat} {uv : Value} {ar : List Int} {es es' : List MapEntry} {clock clock' : Nat} {cnt : Int} (k : LkI h0 h a n c L N uv ar es clock cnt) : LkI h0 (h.set (h0.length + 2) (.map es' clock')) a n c L N uv ar es' clock' cnt :=
 ⟨k.sub.set (by omega) _, set_ne k.dg (by omega), set_ne k.ar (by omega), set_self k.mp, set_ne k.lk (by omega)⟩
theorem LkI.setA {h0 h : List O} {a : Option Addr} {n c : Nat} {L : Int} {N : Nat} {uv : Value} {ar ar' : List Int} {es : List MapEntry} {clock : Nat} {cnt : Int} (k : LkI h0 h a n c L N uv ar es clock cnt) : LkI h0 (h.set (h0.length + 1) (.cells (intsC ar') 3 (some 0))) a n c L N uv ar' es clock cnt :=
 ⟨k.sub.set (by omega) _, set_ne k.dg (by omega), set_self k.ar, set_ne k.mp (by omega), set_ne k.lk (by omega)⟩
theorem LkI.setL {h0 h : List O} {a : Option Addr} {n c : Nat} {L : Int} {N : Nat} {uv uv' : Value} {ar : List Int} {es : List MapEntry} {clock : Nat} {cnt cnt' : Int} (k : LkI h0 h a n c L N uv ar es clock cnt) : LkI h0 (h.set (h0.length + 3) (.cells (linkC uv' a n c L (.slice (some ⟨h0.length + 1, 0, none⟩) N N) cnt' (.slice none 0 0) 0 (.map (some (h0.length + 2)))) 170 (some 0))) a n c L N uv' ar es clock cnt' :=
 ⟨k.sub.set (by omega) _, set_ne k.dg (by omega), set_ne k.ar (by omega), set_ne k.mp (by omega), set_self k.lk⟩
variable {E : Env} (hE : OE E)
include hE
theorem newLink_ {h0 : List O} {a : Option Addr} {n c : Nat} {x : Nat → Nat → Int} {s : Nat → Int} {L : Int} (hx : CrossP h0 a n x s) (hk : kindD n x s L = 0) :
  DC E 130 [dV a n c L] ⟨h0, h0.length⟩ fun o st' => ∃ (pl k : Nat) (xs : List Int), o = .ret (.pointer (some ⟨pl, 0, none⟩)) ∧ h0.length ≤ pl ∧ h0.length ≤ st'.fl ∧ Sub h0 st'.h ∧ LinkP st'.h pl n x s L k xs := by
 refine hE.fnC (body := rb130) rfl ?_
 unfold rb130
 have hS := (kind_zero hk).1
 obtain ⟨G, hGe⟩ : ∃ G, G = dgOf n x s L := ⟨_, rfl⟩
 have hG : GoodG G := by rw [hGe]; exact good_of hS
 have hGn : G.n = n := by rw [hGe]; rfl
 have hsz := hG.size
 have hlo := hG.loops
 have hGL : G.L = L := by rw [hGe]; rfl
 rw [hGL] at hlo
 rw [hGn] at hsz
 obtain ⟨N, hN⟩ : ∃ N, N = 2 * n := ⟨_, rfl⟩
 have hX : ∀ i q, i < n → q < 4 → x i q = (G.X i q : Int) := fun i q hi hq => by rw [hGe]; exact sound_x hS hi hq
 have hXlt : ∀ i q, i < n → q < 4 → G.X i q < N := fun i q hi hq => by rw [hN, ← hGn]; exact hG.X i q (by rw [hGn]; exact hi) hq
 have e1 : (N : Int) * 8 ≤ 140737488355328 := by omega
 have e2 : (N : Int) < 4611686018427387904 := by omega
 have hw2n : IntKind.i64.wrap (2 * (n : Int)) = N := by rw [w64_id] <;> omega
 simp [dV, rd_at0, rdN_at0, hw2n, e1, e2, List.append_assoc]
 refine DW_loop (fun kk fr st => ∃ (i : Nat) (h : List O) (uv : Value), i + kk = N ∧ st = ⟨h, h0.length⟩ ∧ LkI h0 h a n c L N uv (List.replicate N 0) [] 0 0 ∧ OwnS h (h0.length + 4) uv i (intsC (idL i)) 3 1 ∧
  get fr 1 = .pointer (some ⟨h0.length, 0, none⟩) ∧ get fr 3 = .int .i64 N ∧ get fr 4 = .pointer (some ⟨h0.length + 3, 0, none⟩) ∧ get fr 21 = .int .i64 N ∧ get fr 22 = .int .i64 i) ?_ (k := N) ?_
 ·rintro kk fr st ⟨i, h, uv, hik, rfl, hI, hu, g1, g3, g4, g21, g22⟩
  have b3 := hI.lk
  unfold AtB linkC at b3
  have hl3 := (List.getElem?_eq_some_iff.1 b3).1
  have hmin : min h0.length (h0.length + 3) = h0.length := by omega
  by_cases hi : i < N
  ·have hw : IntKind.i64.wrap ((i : Int) + 1) = (i : Int) + 1 := by rw [w64_id] <;> omega
   have hu2 : OwnS (h ++ [.cells [.int .i64 i] 3 (some 0)]) (h0.length + 4) uv i (intsC (idL i)) 3 1 := hu.ext (Ext.snoc _ _)
   have hread : readSlice (h ++ [.cells [.int .i64 i] 3 (some 0)]) 1 1 (some ⟨h.length, 0, none⟩) = some [.int .i64 i] := by simp [readSlice, rdN_at0]
   obtain ⟨b', H4, f4, happ, hb', hown, hf1, hf2, hL4, K4⟩ := append_S (fl := h0.length) (c := 1) (bytes := 8) hu2 hread (by simp) (by simp) (by simp; omega) (by simp only [roomMax]; omega) (by omega)
   obtain rfl : f4 = h0.length := by omega
   have hne : ∀ (b : Nat), b < h0.length + 4 → ∀ n' c', uv ≠ .slice (some ⟨b, 0, none⟩) n' c' := fun b hb n' c' e => by
    rcases hu.2 with ⟨h1, _⟩ | ⟨b2, s2, h1, h2, _⟩
    ·rw [e] at h1; cases h1
    ·rw [e] at h1
     simp only [Value.slice.injEq, Option.some.injEq, Addr.mk.injEq] at h1
     omega
   have hI4 : LkI h0 H4 a n c L N uv (List.replicate N 0) [] 0 0 := ⟨fun b o hb => K4 b o (app_of (hI.sub b o hb) _) (hne _ (by have := (List.getElem?_eq_some_iff.1 hb).1; omega)),
    K4 _ _ (app_of hI.dg _) (hne _ (by omega)), K4 _ _ (app_of hI.ar _) (hne _ (by omega)), K4 _ _ (app_of hI.mp _) (hne _ (by omega)), K4 _ _ (app_of hI.lk _) (hne _ (by omega))⟩
   have k3 := hI4.lk
   unfold AtB linkC at k3
   simp [g1, g3, g4, g21, g22, hi, rd_def, b3, happ, wrN_def, k3, hw, hmin, -List.length_append]
   refine ⟨kk - 1, by omega, i + 1, by omega, _, hI4.setL, ?_, by omega⟩
   have : OwnS H4 (h0.length + 4) (.slice (some ⟨b', 0, none⟩) (i + 1) (i + 1)) (i + 1) (intsC (idL (i + 1))) 3 1 := by rw [idL_succ]; simpa [intsC] using hown
   refine this.keep fun b s' e1 e2 => set_ne e2 ?_
   simp at e1
   have := (hown.at_).1
   omega
  ·have hin : i = N := by omega
   subst hin
   have b0 := hI.dg
   unfold AtB at b0
   obtain ⟨ub, su, hub⟩ : ∃ ub su, 0 < i → uv = .slice (some ⟨ub, 0, none⟩) i i ∧ h0.length + 4 ≤ ub ∧ h[ub]? = some (.cells (intsC (idL i)) 3 (some su)) := by
    rcases hu.2 with ⟨_, h1⟩ | ⟨b, s', h1, h2, h3, _⟩
    ·exact ⟨0, 0, fun h => by omega⟩
    ·exact ⟨b, s', fun _ => ⟨h1, h2, h3⟩⟩
   simp [g1, g3, g4, g21, g22, rd_def, b0]
   refine DW_loop (fun kk fr st => ∃ (j : Nat) (h : List O) (up : List Int), j + kk = n ∧ st = ⟨h, h0.length⟩ ∧ LkI h0 h a n c L i uv (List.replicate i 0) ((lE G.X s j).map (entG kcII)) (2 * j) 0 ∧
    (0 < i → AtB h ub (.cells (intsC up) 3 (some su)) ∧ UF (archR G.X j) i up) ∧
    get fr 1 = .pointer (some ⟨h0.length, 0, none⟩) ∧ get fr 3 = .int .i64 i ∧ get fr 4 = .pointer (some ⟨h0.length + 3, 0, none⟩) ∧ get fr 39 = .slice a n c ∧ get fr 40 = .int .i64 n ∧ get fr 41 = .int .i64 j) ?_ (k := n) ?_
   ·clear g1 g3 g4 g21 g22 b0 b3 hl3 hi hu hik hI
    rintro kk fr st ⟨j, h, up, hjk, rfl, hI, hU, g1, g3, g4, g39, g40, g41⟩
    by_cases hj : j < n
    ·have hw : IntKind.i64.wrap ((j : Int) + 1) = (j : Int) + 1 := by rw [w64_id] <;> omega
     obtain ⟨hub1, hub2, _⟩ := hub (by omega)
     obtain ⟨hU1, hU2⟩ := hU (by omega)
     unfold AtB at hU1
     obtain ⟨xb, xo, hxa, hxr⟩ := hx
     obtain rfl := hxa (by omega)
     have hcr : rdN h xb (xo + j * 5) 5 = some (crossC (x j) (s j)) := hI.sub.rdN (hxr j hj)
     rw [rdN_def] at hcr
     simp only [crossC] at hcr
     rw [hX j 0 hj (by omega), hX j 1 hj (by omega), hX j 2 hj (by omega), hX j 3 hj (by omega)] at hcr
     obtain ⟨H, hH⟩ : ∃ H, H = h ++ [O.cells [.int .i64 (G.X j 0), .int .i64 (G.X j 1), .int .i64 (G.X j 2), .int .i64 (G.X j 3), .int .i64 (s j)] 107 (some 0)] := ⟨_, rfl⟩
     have hpc : H[h.length]? = some (O.cells [.int .i64 (G.X j 0), .int .i64 (G.X j 1), .int .i64 (G.X j 2), .int .i64 (G.X j 3), .int .i64 (s j)] 107 (some 0)) := by rw [hH, app_at0]; rfl
     have hlH : H.length = h.length + 1 := by rw [hH]; simp
     have hIH := hI.app [O.cells [.int .i64 (G.X j 0), .int .i64 (G.X j 1), .int .i64 (G.X j 2), .int .i64 (G.X j 3), .int .i64 (s j)] 107 (some 0)]
     rw [← hH] at hIH
     have hUH : H[ub]? = some (.cells (intsC up) 3 (some su)) := by rw [hH]; exact app_of hU1 _
     have hubl := (List.getElem?_eq_some_iff.1 hU1).1
     have k3 := hIH.lk
     unfold AtB linkC at k3
     have hjn := joinW_ hE (h := H) (pl := h0.length + 3) (by rw [rd_def, k3, hub1]; rfl) hUH hU2 (hXlt j 1 hj (by omega)) (hXlt j 3 hj (by omega))
     obtain ⟨up', hup'⟩ : ∃ up', up' = up.set (max (archR G.X j (G.X j 1)) (archR G.X j (G.X j 3))) ((min (archR G.X j (G.X j 1)) (archR G.X j (G.X j 3)) : Nat) : Int) := ⟨_, rfl⟩
     have hU2' := hU2.join (hXlt j 1 hj (by omega)) (hXlt j 3 hj (by omega))
     rw [← hup'] at hjn hU2'
     obtain ⟨H2, hH2⟩ : ∃ H2, H2 = H.set ub (.cells (intsC up') 3 (some su)) := ⟨_, rfl⟩
     rw [← hH2] at hjn
     have hl2 : H2.length = h.length + 1 := by rw [hH2, List.length_set, hlH]
     have hI2 := hIH.set hub2 (.cells (intsC up') 3 (some su))
     rw [← hH2] at hI2
     have hjd : joined ⟨H, h0.length⟩ ⟨H2, ub⟩ = ⟨H2, h0.length⟩ := by simp [joined, hlH]; omega
     have hpc2 : H2[h.length]? = some (O.cells [.int .i64 (G.X j 0), .int .i64 (G.X j 1), .int .i64 (G.X j 2), .int .i64 (G.X j 3), .int .i64 (s j)] 107 (some 0)) := by rw [hH2]; exact set_ne hpc (by omega)
     have hm2 := hI2.mp
     unfold AtB at hm2
     have k32 := hI2.lk
     unfold AtB linkC at k32
     have hfr1 : ∀ y ∈ lE G.X s j, (j, 0) ≠ y.1 := fun y hy e => by have := lE_lt y hy; rw [← e] at this; simp at this
     obtain ⟨H3, hH3⟩ : ∃ H3, H3 = H2.set (h0.length + 2) (.map ((lE G.X s j ++ [((j, 0), Value.int .i64 (G.X j 0), 2 * j)]).map (entG kcII)) (2 * j + 1)) := ⟨_, rfl⟩
     have hup1 : updS [some .i64, some .i64] true ⟨H2, h0.length⟩ (.map (some (h0.length + 2))) (.agg #[.int .i64 j, .int .i64 0]) (.int .i64 (G.X j 0)) = some (.val undef, ⟨H3, h0.length⟩) := by
      have := updS_fresh keyII (f := h0.length) hm2 hfr1 (.int .i64 (G.X j 0))
      rw [show min h0.length (h0.length + 2) = h0.length by omega, ← hH3] at this
      exact this
     have hI3 : LkI h0 H3 (some ⟨xb, xo, none⟩) n c L i uv (List.replicate i 0) ((lE G.X s j ++ [((j, 0), Value.int .i64 (G.X j 0), 2 * j)]).map (entG kcII)) (2 * j + 1) 0 := by rw [hH3]; exact hI2.setM
     have hpc3 : H3[h.length]? = some (O.cells [.int .i64 (G.X j 0), .int .i64 (G.X j 1), .int .i64 (G.X j 2), .int .i64 (G.X j 3), .int .i64 (s j)] 107 (some 0)) := by
      rw [hH3]; exact set_ne hpc2 (by have := hI.lk; unfold AtB at this; have := (List.getElem?_eq_some_iff.1 this).1; omega)
     have hm3 := hI3.mp
     unfold AtB at hm3
     have k33 := hI3.lk
     unfold AtB linkC at k33
     have hq : inP (s j) = 1 ∨ inP (s j) = 3 := by unfold inP; split <;> simp
     have hfr2 : ∀ y ∈ lE G.X s j ++ [((j, 0), Value.int .i64 (G.X j 0), 2 * j)], (j, inP (s j)) ≠ y.1 := fun y hy e => by
      rcases List.mem_append.1 hy with hy | hy
      ·have := lE_lt y hy; rw [← e] at this; simp at this
      ·simp at hy; rw [hy] at e; simp at e; omega
     obtain ⟨H4, hH4⟩ : ∃ H4, H4 = H3.set (h0.length + 2) (.map ((lE G.X s (j + 1)).map (entG kcII)) (2 * (j + 1))) := ⟨_, rfl⟩
     have hup2 : updS [some .i64, some .i64] true ⟨H3, h0.length⟩ (.map (some (h0.length + 2))) (.agg #[.int .i64 j, .int .i64 (inP (s j) : Nat)]) (.int .i64 (G.X j (inP (s j)))) = some (.val undef, ⟨H4, h0.length⟩) := by
      have := updS_fresh keyII (f := h0.length) hm3 hfr2 (.int .i64 (G.X j (inP (s j))))
      rw [show min h0.length (h0.length + 2) = h0.length by omega] at this
      rw [hH4]
      exact this
     have hb2 : ¬ ub < h0.length := by omega
     have hsl : h0.length + 3 < h.length := by have := hI.lk; unfold AtB at this; exact (List.getElem?_eq_some_iff.1 this).1
     have hmin2 : min h0.length h.length = h0.length := by omega
     have hI4 : LkI h0 H4 (some ⟨xb, xo, none⟩) n c L i uv (List.replicate i 0) ((lE G.X s (j + 1)).map (entG kcII)) (2 * (j + 1)) 0 := by rw [hH4]; exact hI3.setM
     have hU4 : AtB H4 ub (.cells (intsC up') 3 (some su)) := by
      unfold AtB
      rw [hH4, hH3, hH2]
      exact set_ne (set_ne (set_self hUH) (by omega)) (by omega)
     rcases hS.sign j hj with hs1 | hs1
     all_goals
      simp only [hs1] at hH hpc hpc2 hpc3
      simp only [hs1, inP] at hup2
      simp at hup2
      simp [g1, g3, g4, g39, g40, g41, hj, rdN_def, rd_def, hcr, hmin2, wrN_at0, set_at0, hs1, ← hH, ← hlH, hpc, DC_of hjn, hjd, bit, hpc2, k32, step_updS, hup1, hpc3, k33, hup2, hw]
      exact ⟨kk - 1, by omega, j + 1, by omega, hI4, ⟨up', fun _ => ⟨hU4, hU2'⟩⟩, by omega⟩
    ·have hjn : j = n := by omega
     subst hjn
     have hUr : 0 < i → AtB h ub (.cells (intsC up) 3 (some su)) ∧ UF (arR G) i up := by
      have : arR G = archR G.X j := by unfold arR; rw [hGn]
      rw [this]; exact hU
     simp [g1, g3, g4, g39, g40, g41]
     refine DW_loop (fun kk fr st => ∃ (m : Nat) (h : List O) (ar : List Int), m + kk = i ∧ st = ⟨h, h0.length⟩ ∧ LkI h0 h a j c L i uv ar ((lE G.X s j).map (entG kcII)) (2 * j) (cntR (arR G) m) ∧
      (0 < i → AtB h ub (.cells (intsC up) 3 (some su))) ∧ ar.length = i ∧ (∀ q, q < m → nth ar q = arN G q) ∧
      get fr 1 = .pointer (some ⟨h0.length, 0, none⟩) ∧ get fr 4 = .pointer (some ⟨h0.length + 3, 0, none⟩) ∧ get fr 80 = .int .i64 i ∧ get fr 81 = .int .i64 m) ?_ (k := i) ?_
     ·clear g1 g3 g4 g39 g40 g41 hj hI hU hjk
      rintro kk fr st ⟨m, h, ar, hmk, rfl, hI, hua, hal, har, g1, g4, g80, g81⟩
      have k3 := hI.lk
      unfold AtB linkC at k3
      have hcl := cntP_le (fun b => arR G b = b) m
      have hcl' : cntR (arR G) m ≤ m := hcl
      by_cases hm : m < i
      ·have hw : IntKind.i64.wrap ((m : Int) + 1) = (m : Int) + 1 := by rw [w64_id] <;> omega
       obtain ⟨hub1, hub2, _⟩ := hub (by omega)
       have hua1 := hua (by omega)
       unfold AtB at hua1
       have hrt := root_ hE (h := h) (pl := h0.length + 3) (by rw [rd_def, k3, hub1]; rfl) hua1 (hUr (by omega)).2 hm
       have hrm := (arR_rep G).le m
       have b1 := hI.ar
       unfold AtB at b1
       have hm1 : m + 1 ≤ i := by omega
       have hmin1 : min h0.length (h0.length + 1) = h0.length := by omega
       have hmin3 : min h0.length (h0.length + 3) = h0.length := by omega
       by_cases hr : arR G m = m
       ·obtain ⟨H, hH⟩ : ∃ H, H = h.set (h0.length + 1) (.cells (intsC (ar.set m (cntR (arR G) m))) 3 (some 0)) := ⟨_, rfl⟩
        have hIH := hI.setA (ar' := ar.set m (cntR (arR G) m))
        rw [← hH] at hIH
        have k3' := hIH.lk
        unfold AtB linkC at k3'
        have hwc : IntKind.i64.wrap ((cntR (arR G) m : Int) + 1) = (cntR (arR G) m : Int) + 1 := by rw [w64_id] <;> omega
        simp [g1, g4, g80, g81, hm, DC_of hrt, hr, rd_def, k3, hw, bit, wrN_def, b1, hal, hm1, intsC_set, hmin1, ← hH, k3', hwc, hmin3]
        refine ⟨kk - 1, by omega, m + 1, by omega, ar.set m (cntR (arR G) m), ?_, fun _ => ?_, by simp [hal], fun q hq => ?_, by omega⟩
        ·have := hIH.setL (uv' := uv) (cnt' := (cntR (arR G) (m + 1) : Int))
         rw [cntR_succ, if_pos hr] at this ⊢
         exact this
        ·rw [hH]; exact set_ne (set_ne hua1 (by omega)) (by omega)
        ·rw [nth_set (by omega)]
         by_cases e : q = m
         ·rw [if_pos e, e]; unfold arN; rw [hr]
         ·rw [if_neg e]; exact har q (by omega)
       ·have hlt : arR G m < m := by omega
        have hlt2 : arR G m < i := by omega
        have hlt3 : arR G m < ar.length := by omega
        have hv := har _ hlt
        have hne : ¬ ((arR G m : Nat) : Int) = m := by omega
        simp [g1, g4, g80, g81, hm, DC_of hrt, hr, rd_def, k3, hw, bit, wrN_def, b1, hal, hm1, intsC_set, hmin1, hlt2, intsC_get hlt3, hv, hne]
        refine ⟨kk - 1, by omega, m + 1, by omega, ar.set m (arN G (arR G m)), ?_, fun _ => ?_, by simp [hal], fun q hq => ?_, by omega⟩
        ·have := hI.setA (ar' := ar.set m (arN G (arR G m)))
         rw [cntR_succ, if_neg hr]
         exact this
        ·exact set_ne hua1 (by omega)
        ·rw [nth_set (by omega)]
         by_cases e : q = m
         ·rw [if_pos e, e]; unfold arN; rw [(arR_rep G).idem]
         ·rw [if_neg e]; exact har q (by omega)
      ·have hmi : m = i := by omega
       subst hmi
       have b0 := hI.dg
       unfold AtB at b0
       have hmin3 : min h0.length (h0.length + 3) = h0.length := by omega
       have hwc : IntKind.i64.wrap ((cntR (arR G) m : Int) + L) = (cntR (arR G) m : Int) + L := by rw [w64_id] <;> omega
       obtain ⟨H, hH⟩ : ∃ H, H = h.set (h0.length + 3) (.cells (linkC uv a j c L (.slice (some ⟨h0.length + 1, 0, none⟩) m m) (cntR (arR G) m + L) (.slice none 0 0) 0 (.map (some (h0.length + 2)))) 170 (some 0)) := ⟨_, rfl⟩
       have hIH := hI.setL (uv' := uv) (cnt' := (cntR (arR G) m : Int) + L)
       rw [← hH] at hIH
       simp only [linkC] at hH
       have b0' := hIH.dg
       unfold AtB at b0'
       have hcp := componentsP_ hE (c := c) (hx.sub hIH.sub) hk
       simp only [dV] at hcp
       simp [g1, g4, g80, g81, rd_def, k3, b0, hwc, bit, wrN_def, hmin3, ← hH, rdN_def, b0']
       refine hcp.imp ?_
       rintro o ⟨h2, f2⟩ ⟨cb, k, xs, rfl, hcb, hf2, hs2, hxs, hO, hk2⟩
       simp only at hf2 hs2 hxs
       have k3' := hs2 _ _ hIH.lk
       unfold linkC at k3'
       have hl3 := (List.getElem?_eq_some_iff.1 k3').1
       simp [g4, joined_fl, hf2, wrN_def, k3', hmin3, List.getElem?_set_self hl3, endK_ret]
       unfold pairQ back
       rw [if_neg (by simp [Out.scalar, scalar, flat1, flat])]
       have hHl := hIH.lk
       unfold AtB at hHl
       have hH3 := (List.getElem?_eq_some_iff.1 hHl).1
       have hs02 : ∀ (b : Nat) (o : O), H[b]? = some o → b ≠ h0.length + 3 → (h2.set (h0.length + 3) (.cells [uv, .slice a j c, .int .i64 L, .slice (some ⟨h0.length + 1, 0, none⟩) m m, .int .i64 (cntR (arR G) m + L), .slice (some ⟨cb, 0, none⟩) (2 * j) (2 * j), .int .i64 (k + L), .map (some (h0.length + 2))] 170 (some 0)))[b]? = some o := fun b o hb hne => set_ne (hs2 b o hb) hne
       refine ⟨h0.length + 3, rfl, by omega, Nat.le_refl _, fun b o hb => ?_, k, xs, uv, a, c, h0.length + 1, cb, h0.length + 2, ?_, ?_, ?_, ?_, ?_, hO, hk2⟩
       ·have := (List.getElem?_eq_some_iff.1 hb).1
        exact hs02 b o (hIH.sub b o hb) (by omega)
       ·rw [← hGe, show arC G = cntR (arR G) m from by unfold arC; rw [hGn, hN], ← hN]
        exact set_self k3'
       ·exact hx.sub fun b o hb => by
         have := (List.getElem?_eq_some_iff.1 hb).1
         exact hs02 b o (hIH.sub b o hb) (by omega)
       ·have := hs02 _ _ hIH.ar (by omega)
        rw [← hGe, show arL G = ar from (eq_tabL (by rw [hGn]; omega) (fun q hq => by rw [har q (by rw [hGn] at hq; omega)])).symm]
        exact this
       ·exact set_ne hxs (by omega)
       ·rw [← hGe]; exact hs02 _ _ hIH.mp (by omega)
     ·exact ⟨0, h, List.replicate i 0, by omega, rfl, hI, fun h0' => (hUr h0').1, by simp, fun q hq => by omega, by simp [g1, g4]⟩
   ·refine ⟨0, h, idL i, by omega, rfl, hI, fun h0' => ⟨(hub h0').2.2, UF.start i⟩, by simp [g1, g3, g4]⟩
 ·refine ⟨0, _, .slice none 0 0, by omega, rfl, ⟨(Sub.refl h0).app _, ?_, ?_, ?_, ?_⟩, OwnS.nil _ _ _ _, by simp⟩
  ·unfold AtB; rw [app_at0]; rfl
  ·unfold AtB; rw [app_at]; simp [rep, intsC]
  ·unfold AtB; rw [app_at]; rfl
  ·unfold AtB; rw [app_at]; rfl
end Go.Proofs.Ytjlkndkedknocaa
namespace Go.Ai
theorem Ints.sub {h h' : List O} {v : Value} {xs : List Int} (hc : Ints h v xs) (e : ∀ (b : Nat) (o : O), h[b]? = some o → h'[b]? = some o) : Ints h' v xs := by
 obtain ⟨a, b, o, c, h1, h2, h3, h4⟩ := hc
 exact ⟨a, b, o, c, h1, h2, fun i hi => Sub.rd e (h3 i hi), h4⟩
theorem Mat.sub {h h' : List O} {v : Value} {A : List (List Int)} (hc : Mat h v A) (e : ∀ (b : Nat) (o : O), h[b]? = some o → h'[b]? = some o) : Mat h' v A := by
 obtain ⟨a, b, o, c, vs, h1, h2, h3, h4⟩ := hc
 exact ⟨a, b, o, c, vs, h1, h2, fun i hi => ⟨Sub.rd e (h3 i hi).1, (h3 i hi).2.sub e⟩, h4⟩
theorem orb_unique {N k k' : Nat} {f : Nat → Nat} {xs xs' : List Int} (h : OrbI N f N k xs) (h' : OrbI N f N k' xs') : xs = xs' ∧ k = k' := by
 obtain ⟨e1, e2⟩ := h.numb.unique h'.numb
 refine ⟨?_, e2⟩
 apply List.ext_getElem (by rw [h.len, h'.len])
 intro j h1 h2
 have hj : j < N := by rw [← h.len]; exact h1
 have e := e1 j hj
 have d1 := h.done j hj
 have d2 := h'.done j hj
 rw [← nth_eq h1, ← nth_eq h2]
 omega
end Go.Ai
namespace Go.Proofs.Ytjlkndkedknocaa
open Go Go.Ai
attribute [local instance] Classical.propDecidable
noncomputable def cpX (G : Dg) : List Int × Nat := if h : ∃ p : List Int × Nat, OrbI (2 * G.n) (nx G) (2 * G.n) p.2 p.1 then h.choose else ([], 0)
noncomputable def cpL (G : Dg) : List Int := (cpX G).1
noncomputable def cpK (G : Dg) : Nat := (cpX G).2
theorem cp_eq {G : Dg} {k : Nat} {xs : List Int} (h : OrbI (2 * G.n) (nx G) (2 * G.n) k xs) : xs = cpL G ∧ k = cpK G := by
 have hx : ∃ p : List Int × Nat, OrbI (2 * G.n) (nx G) (2 * G.n) p.2 p.1 := ⟨(xs, k), h⟩
 have hs := hx.choose_spec
 have e : cpX G = hx.choose := dif_pos hx
 unfold cpL cpK
 rw [e]
 exact orb_unique h hs
noncomputable def fstA (G : Dg) (k : Int) : Int := firstI (fun j => decide (nth (cpL G) j = k)) (2 * G.n)
noncomputable def merD (G : Dg) (k : Int) : Int := if 0 ≤ fstA G k then arN G (fstA G k).toNat + 1 else arC G - cpK G + k + 1
theorem fstA_lt {G : Dg} {k : Int} : fstA G k < 2 * G.n ∧ -1 ≤ fstA G k := by
 unfold fstA
 rcases firstI_cases (fun j => decide (nth (cpL G) j = k)) (2 * G.n) with ⟨i, h1, _, _, h2⟩ | ⟨_, h2⟩ <;> omega
def LnkP (h : List O) (pl n : Nat) (x : Nat → Nat → Int) (s : Nat → Int) (L : Int) : Prop := LinkP h pl n x s L (cpK (dgOf n x s L)) (cpL (dgOf n x s L))
theorem LinkP.canon {h : List O} {pl n k : Nat} {x : Nat → Nat → Int} {s : Nat → Int} {L : Int} {xs : List Int} (hl : LinkP h pl n x s L k xs) : LnkP h pl n x s L := by
 have hl' := hl
 obtain ⟨uv, xa, xc, ab, cb, mb, h1, h2, h3, h4, h5, hO, hk⟩ := hl'
 obtain ⟨e1, e2⟩ := cp_eq (G := dgOf n x s L) hO
 unfold LnkP
 rw [← e1, ← e2]; exact hl
theorem LnkP.sub {h h' : List O} {pl n : Nat} {x : Nat → Nat → Int} {s : Nat → Int} {L : Int} (hl : LnkP h pl n x s L) (e : Sub h h') : LnkP h' pl n x s L := LinkP.sub hl e
variable {E : Env} (hE : OE E)
include hE
theorem newLinkC_ {h0 : List O} {a : Option Addr} {n c : Nat} {x : Nat → Nat → Int} {s : Nat → Int} {L : Int} (hx : CrossP h0 a n x s) (hk : kindD n x s L = 0) :
  DC E 130 [dV a n c L] ⟨h0, h0.length⟩ fun o st' => ∃ pl : Nat, o = .ret (.pointer (some ⟨pl, 0, none⟩)) ∧ h0.length ≤ pl ∧ h0.length ≤ st'.fl ∧ Sub h0 st'.h ∧ LnkP st'.h pl n x s L :=
 (newLink_ hE hx hk).imp fun o st' ⟨pl, k, xs, h1, h2, h3, h4, h5⟩ => ⟨pl, h1, h2, h3, h4, h5.canon⟩
theorem generator_ {h : List O} {pl n : Nat} {x : Nat → Nat → Int} {s : Nat → Int} {L : Int} (hl : LnkP h pl n x s L) (hn : n ≤ 200) {i : Nat} (hi : i < 2 * n) :
  DR E 149 [.pointer (some ⟨pl, 0, none⟩), .int .i64 i] ⟨h, h.length⟩ (.ret (.int .i64 (arN (dgOf n x s L) i + 1))) ⟨h, h.length⟩ := by
 refine hE.fn (body := rb149) rfl ?_
 unfold rb149
 obtain ⟨uv, xa, xc, ab, cb, mb, h1, h2, h3, h4, h5, hO, hk⟩ := hl
 unfold linkC at h1
 have hi' : (i : Int) < 2 * n := by omega
 have hG : (dgOf n x s L).n = n := rfl
 have hlen : i < (arL (dgOf n x s L)).length := by unfold arL; rw [tabL_length, hG]; exact hi
 have hv : nth (arL (dgOf n x s L)) i = arN (dgOf n x s L) i := tabL_nth (by rw [hG]; exact hi)
 have hlt := arN_lt (G := dgOf n x s L) (a := i) (by rw [hG]; exact hi)
 have hle := arC_le (dgOf n x s L)
 rw [hG] at hle
 have hw : IntKind.i64.wrap ((arN (dgOf n x s L) i : Int) + 1) = (arN (dgOf n x s L) i : Int) + 1 := by rw [w64_id] <;> omega
 simp [rd_def, h1, hi, hi', h3, intsC_get hlen, hv, hw]
theorem indexI_ {h : List O} {b n c : Nat} {xs : List Int} {v : Int} {el : TypeId} {own : Option Nat} (hb : h[b]? = some (.cells (intsC xs) el own)) (hn : xs.length = n) (hlt : n < 1000000) :
  DR E 211 [.slice (some ⟨b, 0, none⟩) n c, .int .i64 v] ⟨h, h.length⟩ (.ret (.int .i64 (firstI (fun j => decide (nth xs j = v)) n))) ⟨h, h.length⟩ := by
 refine hE.fn (body := rb211) rfl ?_
 unfold rb211
 simp
 refine DW_loop (fun kk fr st => ∃ (i : Nat), i + kk = n ∧ st = ⟨h, h.length⟩ ∧ (∀ j, j < i → nth xs j ≠ v) ∧ get fr 0 = .slice (some ⟨b, 0, none⟩) n c ∧ get fr 1 = .int .i64 v ∧ get fr 7 = .int .i64 n ∧ get fr 8 = .int .i64 i) ?_ (k := n) ?_
 ·rintro kk fr st ⟨i, hik, rfl, hm, g0, g1, g7, g8⟩
  by_cases hi : i < n
  ·have hw : IntKind.i64.wrap ((i : Int) + 1) = (i : Int) + 1 := by rw [w64_id] <;> omega
   have hi2 : i < xs.length := by omega
   by_cases hv : nth xs i = v
   ·have hv' : v = nth xs i := hv.symm
    have hf : firstI (fun j => decide (nth xs j = v)) n = i := firstI_found hi (by simp [hv]) (fun j hj => by simp [hm j hj])
    simp [g0, g1, g7, g8, hi, rd_def, hb, intsC_get hi2, hv', endK_ret]
    rw [hv'] at hf
    exact hf.symm
   ·have hv' : ¬ v = nth xs i := fun e => hv e.symm
    simp [g0, g1, g7, g8, hi, rd_def, hb, intsC_get hi2, hv', hw]
    refine ⟨kk - 1, by omega, i + 1, by omega, fun j hj => ?_, by omega⟩
    by_cases e : j = i
    ·rw [e]; exact hv
    ·exact hm j (by omega)
  ·have hin : i = n := by omega
   subst hin
   have hf : firstI (fun j => decide (nth xs j = v)) i = -1 := firstI_none (fun j hj => by simp [hm j hj])
   simp [g0, g1, g7, g8, endK_ret, hf]
 ·exact ⟨0, by omega, rfl, fun j h => by omega, by simp⟩
theorem first_ {h : List O} {pl n : Nat} {x : Nat → Nat → Int} {s : Nat → Int} {L : Int} (hl : LnkP h pl n x s L) (hn : n ≤ 200) (hL : 0 ≤ L ∧ L ≤ 200) {k : Int} (hk : 0 ≤ k ∧ k < cpK (dgOf n x s L) + L) :
  DR E 147 [.pointer (some ⟨pl, 0, none⟩), .int .i64 k] ⟨h, h.length⟩ (.ret (.tuple #[.int .i64 (fstA (dgOf n x s L) k), .int .i64 (merD (dgOf n x s L) k)])) ⟨h, h.length⟩ := by
 refine hE.fn (body := rb147) rfl ?_
 unfold rb147
 have hl' := hl
 obtain ⟨uv, xa, xc, ab, cb, mb, h1, h2, h3, h4, h5, hO, hk'⟩ := hl'
 unfold linkC at h1
 have hG : (dgOf n x s L).n = n := rfl
 have hi := indexI_ hE (v := k) (n := 2 * n) (c := 2 * n) h4 hO.len (by omega)
 obtain ⟨f, hf⟩ : ∃ f, f = firstI (fun j => decide (nth (cpL (dgOf n x s L)) j = k)) (2 * n) := ⟨_, rfl⟩
 have hfA : fstA (dgOf n x s L) k = f := by rw [hf]; rfl
 rw [← hf] at hi
 have hfl := fstA_lt (G := dgOf n x s L) (k := k)
 rw [hfA, hG] at hfl
 have hle := arC_le (dgOf n x s L)
 rw [hG] at hle
 unfold merD
 rw [hfA]
 by_cases h0 : 0 ≤ f
 ·obtain ⟨i, rfl⟩ : ∃ i : Nat, f = i := ⟨f.toNat, by omega⟩
  have hg := generator_ hE hl hn (i := i) (by omega)
  simp [rd_def, h1, DC_of hi, DC_of hg, endK_ret, back_scalar, Out.scalar, scalar, flat1, flat]
 ·have hf1 : f = -1 := by omega
  have hw1 : IntKind.i64.wrap ((arC (dgOf n x s L) : Int) + L - (cpK (dgOf n x s L) + L)) = (arC (dgOf n x s L) : Int) - cpK (dgOf n x s L) := by rw [w64_id] <;> omega
  have hw2 : IntKind.i64.wrap ((arC (dgOf n x s L) : Int) - cpK (dgOf n x s L) + k) = (arC (dgOf n x s L) : Int) - cpK (dgOf n x s L) + k := by rw [w64_id] <;> omega
  have hw3 : IntKind.i64.wrap ((arC (dgOf n x s L) : Int) - cpK (dgOf n x s L) + k + 1) = (arC (dgOf n x s L) : Int) - cpK (dgOf n x s L) + k + 1 := by rw [w64_id] <;> omega
  subst hf1
  simp [rd_def, h1, DC_of hi, endK_ret, hw1, hw2, hw3, back_scalar, Out.scalar, scalar, flat1, flat]
theorem arches_ {h0 : List O} {a : Option Addr} {n c : Nat} {x : Nat → Nat → Int} {s : Nat → Int} {L : Int} (hx : CrossP h0 a n x s) :
  DC E 75 [dV a n c L] ⟨h0, h0.length⟩ fun o st' => (kindD n x s L ≠ 0 ∧ o = .ret (.tuple #[.slice none 0 0, .int .i64 0, .int .i64 (kindD n x s L)]) ∧ st' = ⟨h0, h0.length⟩) ∨
   (kindD n x s L = 0 ∧ ∃ b, o = .ret (.tuple #[.slice (some ⟨b, 0, none⟩) (2 * n) (2 * n), .int .i64 (arC (dgOf n x s L) + L), .int .i64 0]) ∧ Sub h0 st'.h ∧ h0.length ≤ st'.fl ∧ st'.h[b]? = some (.cells (intsC (arL (dgOf n x s L))) 3 (some 0))) := by
 refine hE.fnC (body := rb75) rfl ?_
 unfold rb75
 have hx1 : CrossP (h0 ++ [O.cells [.slice a n c, .int .i64 L] 24 (some 0)]) a n x s := hx.ext (Ext.snoc _ _)
 have h1 := check_ hE (c := c) (L := L) hx1
 simp [dV] at h1
 by_cases hk : kindD n x s L = 0
 ·have h2 := newLinkC_ hE (c := c) hx1 hk
  simp [dV] at h2
  simp [dV, rdN_at0, joined_fl, DC_of h1, hk]
  refine h2.imp ?_
  rintro o ⟨h3, f3⟩ ⟨pl, rfl, hp, hf, hs, hl⟩
  simp only at hf hs hl
  obtain ⟨uv, xa, xc, ab, cb, mb, k1, k2, k3, k4, k5, hO, hk'⟩ := hl
  unfold linkC at k1
  have hs0 : Sub h0 h3 := ((Sub.refl h0).app _).trans hs
  simp [joined_fl, hf, rd_def, k1, bit, endK_ret]
  unfold pairQ back
  rw [if_neg (by simp [Out.scalar, scalar, flat1, flat])]
  exact ⟨ab, rfl, hs0, Nat.le_refl _, k3⟩
 ·simp [dV, rdN_at0, joined_fl, DC_of h1, hk, endK_ret, back_scalar, Out.scalar, scalar, flat1, flat]
theorem meridian_ {h0 : List O} {a : Option Addr} {n c : Nat} {x : Nat → Nat → Int} {s : Nat → Int} {L : Int} (hx : CrossP h0 a n x s) (k : Int) :
  DR E 69 [dV a n c L, .int .i64 k] ⟨h0, h0.length⟩ (.ret (if kindD n x s L ≠ 0 then .tuple #[.int .i64 0, .int .i64 (kindD n x s L)] else if 0 ≤ k ∧ k < cpK (dgOf n x s L) + L then .tuple #[.int .i64 (merD (dgOf n x s L) k), .int .i64 0] else .tuple #[.int .i64 0, .int .i64 1])) ⟨h0, h0.length⟩ := by
 refine hE.fn (body := rb69) rfl ?_
 unfold rb69
 have hx1 : CrossP (h0 ++ [O.cells [.slice a n c, .int .i64 L] 24 (some 0)]) a n x s := hx.ext (Ext.snoc _ _)
 have h1 := check_ hE (c := c) (L := L) hx1
 simp [dV] at h1
 by_cases hk : kindD n x s L = 0
 ·have h2 := newLinkC_ hE (c := c) hx1 hk
  simp [dV] at h2
  have hS := (kind_zero hk).1
  simp [dV, rdN_at0, joined_fl, DC_of h1, hk]
  refine h2.imp ?_
  rintro o ⟨h3, f3⟩ ⟨pl, rfl, hp, hf, hs, hl⟩
  simp only at hf hs hl
  have hl' := hl
  obtain ⟨uv, xa, xc, ab, cb, mb, k1, k2, k3, k4, k5, hO, hk'⟩ := hl'
  unfold linkC at k1
  have hlen := hs.len
  simp at hlen
  by_cases c1 : 0 ≤ k
  ·have c1' : ¬ k < 0 := by omega
   by_cases c2 : k < cpK (dgOf n x s L) + L
   ·have c2' : ¬ (cpK (dgOf n x s L) : Int) + L ≤ k := by omega
    have hfi := first_ hE hl hS.size hS.loops ⟨c1, c2⟩
    simp [joined_fl, hf, rd_def, k1, bit, endK_ret, c1, c1', c2, c2', DC_of hfi, back_scalar, Out.scalar, scalar, flat1, flat]
   ·have c2' : (cpK (dgOf n x s L) : Int) + L ≤ k := by omega
    simp [joined_fl, hf, rd_def, k1, bit, endK_ret, c1, c1', c2, c2', back_scalar, Out.scalar, scalar, flat1, flat]
  ·have c1' : k < 0 := by omega
   simp [joined_fl, hf, rd_def, k1, bit, endK_ret, c1, c1', back_scalar, Out.scalar, scalar, flat1, flat]
 ·simp [dV, rdN_at0, joined_fl, DC_of h1, hk, endK_ret, back_scalar, Out.scalar, scalar, flat1, flat]
end Go.Proofs.Ytjlkndkedknocaa
namespace Go.Ai
theorem flat_len {v : Value} {a : Option Addr} {n c : Nat} (h : v = .slice a n c) (hf : flat v = true) : n = 0 := by
 subst h
 unfold flat at hf
 split at hf <;> first | rfl | (simp_all; done) | (rename_i e; cases e; rfl) | (cases hf)
theorem Mat.flat {h h' : List O} {v : Value} {A : List (List Int)} (hm : Mat h v A) (hf : Ai.flat v = true) : Mat h' v A := by
 obtain ⟨a, b, o, c, vs, h1, h2, h3, h4⟩ := hm
 have := flat_len h1 hf
 exact ⟨a, b, o, c, vs, h1, h2, fun i hi => by omega, h4⟩
theorem Ints.flat {h h' : List O} {v : Value} {A : List Int} (hm : Ints h v A) (hf : Ai.flat v = true) : Ints h' v A := by
 obtain ⟨a, b, o, c, h1, h2, h3, h4⟩ := hm
 have := flat_len h1 hf
 exact ⟨a, b, o, c, h1, h2, fun i hi => by omega, h4⟩
def MatN (h : List O) (lo : Nat) (v : Value) (A : List (List Int)) : Prop := ∀ h' : List O, (∀ (b : Nat) (o : O), lo ≤ b → h[b]? = some o → h'[b]? = some o) → Mat h' v A
theorem MatN.mat {h : List O} {lo : Nat} {v : Value} {A : List (List Int)} (k : MatN h lo v A) : Mat h v A := k h fun _ _ _ hb => hb
theorem MatN.low {h : List O} {lo lo' : Nat} {v : Value} {A : List (List Int)} (k : MatN h lo v A) (hl : lo' ≤ lo) : MatN h lo' v A := fun h' hk => k h' fun b o hb => hk b o (by omega)
end Go.Ai
namespace Go.Proofs.Ytjlkndkedknocaa
open Go Go.Ai
attribute [local instance] Classical.propDecidable
noncomputable def gen (G : Dg) (a : Nat) : Int := arN G a + 1
noncomputable def relOf (G : Dg) (i : Nat) : List Int := [-(gen G (G.X i 1)) * G.s i, gen G (G.X i 0), gen G (G.X i 1) * G.s i, -(gen G (G.X i 2))]
noncomputable def relL (G : Dg) : List (List Int) := (List.range G.n).map (relOf G)
theorem relL_length (G : Dg) : (relL G).length = G.n := by simp [relL]
theorem relL_nth {G : Dg} {i : Nat} (h : i < G.n) : nthR (relL G) i = relOf G i := by simp [relL, nthR, h]
theorem gen_le {G : Dg} (hG : GoodG G) {i q : Nat} (hi : i < G.n) (hq : q < 4) : 1 ≤ gen G (G.X i q) ∧ gen G (G.X i q) ≤ arC G := by
 have := arN_lt (hG.X i q hi hq)
 unfold gen
 omega
theorem relOf_small {G : Dg} (hG : GoodG G) {i : Nat} (hi : i < G.n) (j : Nat) : -1000 ≤ nth (relOf G i) j ∧ nth (relOf G i) j ≤ 1000 := by
 have h0 := gen_le hG hi (show 0 < 4 by omega)
 have h1 := gen_le hG hi (show 1 < 4 by omega)
 have h2 := gen_le hG hi (show 2 < 4 by omega)
 have hc := arC_le G
 have hs := hG.size
 unfold relOf
 match j with
 | 0 => rcases hG.sign i hi with e | e <;> simp [nth, e] <;> omega
 | 1 => simp [nth]; omega
 | 2 => rcases hG.sign i hi with e | e <;> simp [nth, e] <;> omega
 | 3 => simp [nth]; omega
 | j + 4 => simp [nth]
def RelsI (h : List O) (lo : Nat) (G : Dg) (i : Nat) (vs : List Value) : Prop :=
 ∀ q, q < i → ∃ b, vs[q]? = some (.slice (some ⟨b, 0, none⟩) 4 4) ∧ lo ≤ b ∧ h[b]? = some (.cells (intsC (relOf G q)) 3 (some 0))
variable {E : Env} (hE : OE E)
include hE
theorem presentation_ {h0 : List O} {pl n : Nat} {x : Nat → Nat → Int} {s : Nat → Int} {L : Int} (hl : LnkP h0 pl n x s L) (hS : Snd n x s L) :
  DC E 131 [.pointer (some ⟨pl, 0, none⟩)] ⟨h0, h0.length⟩ fun o st' => ∃ v, o = .ret (.agg #[.int .i64 (arC (dgOf n x s L) + L), v]) ∧ Sub h0 st'.h ∧ h0.length ≤ st'.fl ∧ MatN st'.h h0.length v (relL (dgOf n x s L)) := by
 refine hE.fnC (body := rb131) rfl ?_
 unfold rb131
 have hsz := hS.size
 obtain ⟨G, hGe⟩ : ∃ G, G = dgOf n x s L := ⟨_, rfl⟩
 have hG : GoodG G := by rw [hGe]; exact good_of hS
 have hGn : G.n = n := by rw [hGe]; rfl
 have hGs : G.s = s := by rw [hGe]; rfl
 have hX : ∀ i q, i < n → q < 4 → x i q = (G.X i q : Int) := fun i q hi hq => by rw [hGe]; exact sound_x hS hi hq
 have hXlt : ∀ i q, i < n → q < 4 → G.X i q < 2 * n := fun i q hi hq => by rw [← hGn]; exact hG.X i q (by rw [hGn]; exact hi) hq
 have hl' := hl
 obtain ⟨uv0, xa, xc, ab, cb, mb, k1, hx, k3, k4, k5, hO, hk'⟩ := hl'
 unfold linkC at k1
 have hk1 : ∀ l, (h0 ++ l)[pl]? = _ := fun l => app_of k1 l
 have hpl := (List.getElem?_eq_some_iff.1 k1).1
 simp [rd_def, hk1, wrN_at0, wrN_at, set_at, set_at0, List.append_assoc]
 rw [← hGe]
 refine DW_loop (fun kk fr st => ∃ (i : Nat) (h : List O) (uv : Value) (vs : List Value), i + kk = n ∧ st = ⟨h, h0.length⟩ ∧ Sub h0 h ∧ AtB h h0.length (.cells [.int .i64 0, .slice none 0 0] 81 (some 0)) ∧ AtB h (h0.length + 1) (.cells [.int .i64 (arC G + L), uv] 81 (some 0)) ∧
  OwnS h (h0.length + 2) uv i vs 34 1 ∧ RelsI h (h0.length + 2) G i vs ∧
  get fr 0 = .pointer (some ⟨pl, 0, none⟩) ∧ get fr 2 = .pointer (some ⟨h0.length, 0, none⟩) ∧ get fr 3 = .pointer (some ⟨h0.length + 1, 0, none⟩) ∧ get fr 18 = .slice xa n xc ∧ get fr 19 = .int .i64 n ∧ get fr 20 = .int .i64 i) ?_ (k := n) ?_
 ·rintro kk fr st ⟨i, h, uv, vs, hik, rfl, hsub, a2, a3, hu, hR, g0, g2, g3, g18, g19, g20⟩
  have b2 := a2
  have b3 := a3
  unfold AtB at b2 b3
  have hl3 := (List.getElem?_eq_some_iff.1 b3).1
  have hmin : min h0.length (h0.length + 1) = h0.length := by omega
  by_cases hi : i < n
  ·have hw : IntKind.i64.wrap ((i : Int) + 1) = (i : Int) + 1 := by rw [w64_id] <;> omega
   obtain ⟨xb, xo, hxa, hxr⟩ := hx
   obtain rfl := hxa (by omega)
   have hcr : rdN h xb (xo + i * 5) 5 = some (crossC (x i) (s i)) := hsub.rdN (hxr i hi)
   rw [rdN_def] at hcr
   simp only [crossC] at hcr
   rw [hX i 0 hi (by omega), hX i 1 hi (by omega), hX i 2 hi (by omega), hX i 3 hi (by omega)] at hcr
   obtain ⟨H, hH⟩ : ∃ H, H = h ++ [O.cells [.int .i64 (G.X i 0), .int .i64 (G.X i 1), .int .i64 (G.X i 2), .int .i64 (G.X i 3), .int .i64 (s i)] 107 (some 0)] := ⟨_, rfl⟩
   have hpc : H[h.length]? = some (O.cells [.int .i64 (G.X i 0), .int .i64 (G.X i 1), .int .i64 (G.X i 2), .int .i64 (G.X i 3), .int .i64 (s i)] 107 (some 0)) := by rw [hH, app_at0]; rfl
   have hlH : H.length = h.length + 1 := by rw [hH]; simp
   have hsH : Sub h0 H := by rw [hH]; exact hsub.app _
   have hg := fun q (hq : q < 4) => generator_ hE (hl.sub hsH) hsz (hXlt i q hi hq)
   rw [← hGe] at hg
   have hgv : ∀ q, q < 4 → 1 ≤ gen G (G.X i q) ∧ gen G (G.X i q) ≤ 1000 := fun q hq => by
    have h1 := gen_le hG (by rw [hGn]; exact hi) hq
    have h2 := arC_le G
    rw [hGn] at h2
    omega
   have hgq : ∀ q, q < 4 → (arN G (G.X i q) : Int) + 1 = gen G (G.X i q) := fun q hq => rfl
   have hg0 := hg 0 (by omega)
   have hg1 := hg 1 (by omega)
   have hg2 := hg 2 (by omega)
   rw [hgq 0 (by omega)] at hg0
   rw [hgq 1 (by omega)] at hg1
   rw [hgq 2 (by omega)] at hg2
   have v0 := hgv 0 (by omega)
   have v1 := hgv 1 (by omega)
   have v2 := hgv 2 (by omega)
   have hrel : relOf G i = [-(gen G (G.X i 1)) * s i, gen G (G.X i 0), gen G (G.X i 1) * s i, -(gen G (G.X i 2))] := by unfold relOf; rw [hGs]
   have w1 : IntKind.i64.wrap (IntKind.i64.wrap (-gen G (G.X i 1)) * s i) = -(gen G (G.X i 1)) * s i := by
    rcases hS.sign i hi with e | e <;> rw [e] <;> rw [w64_id (x := -_) (by omega) (by omega)] <;> rw [w64_id] <;> omega
   have w2 : IntKind.i64.wrap (gen G (G.X i 1) * s i) = gen G (G.X i 1) * s i := by
    rcases hS.sign i hi with e | e <;> rw [e] <;> rw [w64_id] <;> omega
   have w3 : IntKind.i64.wrap (-gen G (G.X i 2)) = -(gen G (G.X i 2)) := by rw [w64_id] <;> omega
   have hpc0 : H[h.length]? = some (O.cells [.int .i64 (G.X i 0), .int .i64 (G.X i 1), .int .i64 (G.X i 2), .int .i64 (G.X i 3), .int .i64 (s i)] 107 (some 0)) := hpc
   obtain ⟨H2, hH2⟩ : ∃ H2, H2 = H ++ [O.cells (intsC (relOf G i)) 3 (some 0)] := ⟨_, rfl⟩
   have hH2' : H2 = H ++ [O.cells [.int .i64 (-(gen G (G.X i 1)) * s i), .int .i64 (gen G (G.X i 0)), .int .i64 (gen G (G.X i 1) * s i), .int .i64 (-(gen G (G.X i 2)))] 3 (some 0)] := by rw [hH2, hrel]; rfl
   have hl2 : H2.length = H.length + 1 := by rw [hH2]; simp
   have b3H : H[h0.length + 1]? = some (.cells [.int .i64 (arC G + L), uv] 81 (some 0)) := by rw [hH]; exact app_of b3 _
   have hmin2 : min h0.length h.length = h0.length := by omega
   have hE2 : Ext h H2 := by rw [hH2, hH]; exact (Ext.snoc _ _).trans (Ext.snoc _ _)
   have hu2 : OwnS (H2 ++ [.cells [.slice (some ⟨H.length, 0, none⟩) 4 4] 34 (some 0)]) (h0.length + 2) uv i vs 34 1 := hu.ext (hE2.trans (Ext.snoc _ _))
   have hread : readSlice (H2 ++ [.cells [.slice (some ⟨H.length, 0, none⟩) 4 4] 34 (some 0)]) 1 1 (some ⟨H2.length, 0, none⟩) = some [.slice (some ⟨H.length, 0, none⟩) 4 4] := by simp [readSlice, rdN_at0]
   obtain ⟨b', H4, f4, happ, hb', hown, hf1, hf2, hL4, K4⟩ := append_S (fl := h0.length) (c := 1) (bytes := 24) hu2 hread (by simp) (by simp) (by simp [hl2]; omega) (by simp only [roomMax]; omega) (by omega)
   obtain rfl : f4 = h0.length := by omega
   have hne : ∀ (b : Nat), b < h0.length + 2 → ∀ n' c', uv ≠ .slice (some ⟨b, 0, none⟩) n' c' := fun b hb n' c' e => by
    rcases hu.2 with ⟨h1, _⟩ | ⟨b2, s2, h1, h2, _⟩
    ·rw [e] at h1; cases h1
    ·rw [e] at h1
     simp only [Value.slice.injEq, Option.some.injEq, Addr.mk.injEq] at h1
     omega
   have hnei : ∀ (b : Nat) (cs : List Value) (ow : Option Nat), H2[b]? = some (.cells cs 3 ow) → ∀ n' c', uv ≠ .slice (some ⟨b, 0, none⟩) n' c' := fun b cs ow hb n' c' e => by
    rcases hu.2 with ⟨h1, _⟩ | ⟨b2, s2, h1, h2, h3, _⟩
    ·rw [e] at h1; cases h1
    ·rw [e] at h1
     simp only [Value.slice.injEq, Option.some.injEq, Addr.mk.injEq] at h1
     obtain ⟨l, hl⟩ := hE2
     rw [h1.1.1, hl, app_of h3] at hb
     cases hb
   have kB : ∀ (b : Nat) (o : O), h[b]? = some o → (∀ n' c', uv ≠ .slice (some ⟨b, 0, none⟩) n' c') → H4[b]? = some o := fun b o hb hn => by
    obtain ⟨l, hl⟩ := hE2
    exact K4 b o (by rw [hl, List.append_assoc]; exact app_of hb _) hn
   have k3' := kB _ _ b3 (hne _ (by omega))
   rw [hl2] at happ
   have happ2 := happ
   simp only [hH2', List.append_assoc, List.cons_append, List.nil_append] at happ2
   simp [g0, g2, g3, g18, g19, g20, hi, rdN_def, hcr, wrN_at0, set_at0, app_at0, ← hH, ← hlH, hpc, DC_of hg0, DC_of hg1, DC_of hg2, bit, rd_def, w1, w2, w3, hmin2, b3H, happ2, wrN_def, k3', hmin, hw]
   refine ⟨kk - 1, by omega, i + 1, by omega, fun b o hb => ?_, ?_, .slice (some ⟨b', 0, none⟩) (i + 1) (i + 1), ?_, vs ++ [.slice (some ⟨H.length, 0, none⟩) 4 4], ?_, fun q hq => ?_, by omega⟩
   ·have hbl := (List.getElem?_eq_some_iff.1 hb).1
    exact set_ne (kB b o (hsub b o hb) (hne _ (by omega))) (by omega)
   ·exact set_ne (kB _ _ b2 (hne _ (by omega))) (by omega)
   ·exact set_self k3'
   ·exact hown.keep fun b s' e1 e2 => set_ne e2 (by
     simp at e1 hb'
     omega)
   ·by_cases e : q < i
    ·obtain ⟨b, r1, r2, r3⟩ := hR q e
     have hvl : vs.length = i := by have := hu.1; omega
     refine ⟨b, by rw [List.getElem?_append_left (by omega)]; exact r1, r2, set_ne (kB b _ r3 (hnei b (intsC (relOf G q)) (some 0) ?_)) (by omega)⟩
     obtain ⟨l, hl⟩ := hE2
     rw [hl]; exact app_of r3 _
    ·have hqi : q = i := by omega
     subst hqi
     have hvl : vs.length = q := by have := hu.1; omega
     have hin : H2[H.length]? = some (O.cells (intsC (relOf G q)) 3 (some 0)) := by rw [hH2, app_at0]; rfl
     refine ⟨H.length, by rw [List.getElem?_append_right (by omega), hvl]; simp, by omega, set_ne (K4 _ _ (app_of hin _) (hnei _ _ _ hin)) (by omega)⟩
  ·have hin : i = n := by omega
   subst hin
   have hne2 : ¬ h0.length + 1 = h0.length := by omega
   have b2s := fun o => set_self (x := o) b2
   have hone : one1 uv = true := by rcases hu.2 with ⟨h1, _⟩ | ⟨b, su, h1, _⟩ <;> rw [h1] <;> rfl
   simp [g0, g2, g3, g18, g19, g20, rdN_def, b3, wrN_def, b2, b2s, hone]
   unfold pairQ back
   have hvl : vs.length = i := by have := hu.1; omega
   have hM : ∀ h', (∀ (b : Nat) (o : O), h0.length + 2 ≤ b → h[b]? = some o → h'[b]? = some o) → Mat h' uv (relL G) := fun h' hk => by
    have hi200 : (relL G).length = i := by rw [relL_length, hGn]
    rcases hu.2 with ⟨h1, h2⟩ | ⟨b, su, h1, h2, h3, _⟩
    ·have : relL G = [] := List.length_eq_zero_iff.1 (by omega)
     rw [h1, this]
     exact ⟨none, 0, 0, 0, fun _ => undef, rfl, fun h => absurd h (by simp), fun i hi => absurd hi (by simp), by simp⟩
    ·refine ⟨some ⟨b, 0, none⟩, b, 0, i, fun q => (vs[q]?).getD undef, by rw [h1, hi200], fun _ => rfl, fun q hq => ?_, by omega⟩
     obtain ⟨b', r1, r2, r3⟩ := hR q (by omega)
     have h3' := hk _ _ (by omega) h3
     have r3' := hk _ _ r2 r3
     refine ⟨by rw [rd_def, h3']; simp [r1], ?_⟩
     rw [relL_nth (by omega)]
     simp only [r1, Option.getD_some]
     refine ⟨some ⟨b', 0, none⟩, b', 0, 4, rfl, fun _ => rfl, fun j hj => ?_, fun j => ?_, ?_⟩
     ·rw [rd_def, r3']
      simp only [rdO_cells, Nat.zero_add]
      exact intsC_get hj
     ·have := relOf_small hG (i := q) (by omega) j
      constructor <;> omega
     ·simp [relOf]
   have hM0 := hM h fun _ _ _ hb => hb
   split
   ·rename_i hc
    refine ⟨_, rfl, Sub.refl _, Nat.le_refl _, fun h' _ => Mat.flat hM0 ?_⟩
    simp [Out.scalar, scalar, flat1] at hc
    exact hc.2
   ·exact ⟨_, rfl, (hsub.set (Nat.le_refl _) _), Nat.le_refl _, fun h' hk => hM h' fun b o hb ho => hk b o (by omega) (set_ne ho (by omega))⟩
 ·refine ⟨0, _, .slice none 0 0, [], by omega, rfl, (Sub.refl h0).app _, ?_, ?_, OwnS.nil _ _ _ _, fun q hq => by omega, by simp⟩
  ·unfold AtB; rw [app_at0]; rfl
  ·unfold AtB; rw [app_at, hGe]; simp
theorem ofW_ {h0 : List O} {a : Option Addr} {n c : Nat} {x : Nat → Nat → Int} {s : Nat → Int} {L : Int} (hx : CrossP h0 a n x s) :
  DC E 63 [dV a n c L] ⟨h0, h0.length⟩ fun o st' => (kindD n x s L ≠ 0 ∧ o = .ret (.tuple #[.agg #[.int .i64 0, .slice none 0 0], .int .i64 (kindD n x s L)]) ∧ Sub h0 st'.h ∧ h0.length ≤ st'.fl) ∨
   (kindD n x s L = 0 ∧ ∃ v, o = .ret (.tuple #[.agg #[.int .i64 (arC (dgOf n x s L) + L), v], .int .i64 0]) ∧ Sub h0 st'.h ∧ h0.length ≤ st'.fl ∧ MatN st'.h h0.length v (relL (dgOf n x s L))) := by
 refine hE.fnC (body := rb63) rfl ?_
 unfold rb63
 have hx1 : CrossP (h0 ++ [O.cells [.slice a n c, .int .i64 L] 24 (some 0), O.cells [.int .i64 0, .slice none 0 0] 81 (some 0)]) a n x s := hx.ext (Ext.snoc _ _)
 have h1 := check_ hE (c := c) (L := L) hx1
 simp [dV] at h1
 by_cases hk : kindD n x s L = 0
 ·have h2 := newLinkC_ hE (c := c) hx1 hk
  simp [dV] at h2
  have hS := (kind_zero hk).1
  simp [dV, rdN_at0, joined_fl, DC_of h1, hk, List.append_assoc]
  refine h2.imp ?_
  rintro o ⟨h3, f3⟩ ⟨pl, rfl, hp, hf, hs, hl⟩
  simp only at hf hs hl
  have hs0 : Sub h0 h3 := ((Sub.refl h0).app _).trans hs
  simp [joined_fl, hf]
  refine (presentation_ hE hl hS).imp ?_
  rintro o ⟨h4, f4⟩ ⟨v, rfl, hs4, hf4, hM⟩
  simp only at hf4 hs4 hM
  have hb2 : h4[h0.length + 1]? = some (O.cells [.int .i64 0, .slice none 0 0] 81 (some 0)) := hs4 _ _ (hs _ _ (by rw [app_at]; rfl))
  have hmin : min h0.length (h0.length + 1) = h0.length := by omega
  have hl4 := (List.getElem?_eq_some_iff.1 hb2).1
  have hM0 := hM.mat
  have hone : one1 v = true := by obtain ⟨va, vb, vo, vc, vvs, hv, hvr⟩ := hM0; rw [hv]; rfl
  have hl3 := hs.len
  simp at hl3
  simp [joined_fl, hf4, wrN_def, hb2, hmin, hone, rdN_def, List.getElem?_set_self hl4, endK_ret]
  unfold pairQ back
  split
  ·rename_i hc
   have hfl : flat v = true := by
    simp [Out.scalar, scalar, flat1] at hc
    exact hc.1.2
   exact ⟨v, rfl, Sub.refl _, Nat.le_refl _, fun h' _ => Mat.flat hM0 hfl⟩
  ·exact ⟨v, rfl, (hs0.trans hs4).set (by omega) _, Nat.le_refl _, fun h' hk => hM h' fun b o hb ho => hk b o (by omega) (set_ne ho (by omega))⟩
 ·simp [dV, rdN_at0, joined_fl, DC_of h1, hk, endK_ret, wrN_at, set_at, rdN_at, List.append_assoc]
  unfold pairQ back
  split
  ·exact ⟨rfl, Sub.refl _, Nat.le_refl _⟩
  ·exact ⟨rfl, (Sub.refl _).app _, Nat.le_refl _⟩
end Go.Proofs.Ytjlkndkedknocaa
namespace Go.Ai
attribute [local instance] Classical.propDecidable
def invN (f : List Int) : Nat → List Int
 | 0 => List.replicate f.length 0
 | i + 1 => (invN f i).set (nth f i).toNat i
def invL (f : List Int) : List Int := invN f f.length
theorem invN_length (f : List Int) : ∀ i, (invN f i).length = f.length := by
 intro i
 induction i with
 | zero => simp [invN]
 | succ i ih => simp [invN, ih]
theorem invL_length (f : List Int) : (invL f).length = f.length := invN_length f _
def InN (n : Nat) (f : List Int) : Prop := ∀ i, i < f.length → 0 ≤ nth f i ∧ nth f i < n
structure PermL (n : Nat) (f : List Int) : Prop where
 len : f.length = n
 rng : InN n f
 inj : ∀ i j, i < j → j < n → nth f i ≠ nth f j
theorem invN_at {n : Nat} {f : List Int} (h : PermL n f) : ∀ k, k ≤ n → ∀ i, i < k → nth (invN f k) (nth f i).toNat = i := by
 intro k
 induction k with
 | zero => intro _ i hi; omega
 | succ k ih =>
  intro hk i hi
  have hl := invN_length f k
  have hlen := h.len
  have rk := h.rng k (by omega)
  have ri := h.rng i (by omega)
  simp only [invN]
  rw [nth_set (by omega)]
  by_cases e : i = k
  ·rw [e, if_pos rfl]
  ·have hne := h.inj i k (by omega) (by omega)
   rw [if_neg (by omega)]
   exact ih (by omega) i (by omega)
theorem invL_at {n : Nat} {f : List Int} (h : PermL n f) {i : Nat} (hi : i < n) : nth (invL f) (nth f i).toNat = i := by
 unfold invL
 rw [h.len]
 exact invN_at h n (Nat.le_refl _) i hi
theorem PermL.onto {n : Nat} {f : List Int} (h : PermL n f) {v : Nat} (hv : v < n) : ∃ i, i < n ∧ nth f i = v := by
 obtain ⟨i, h1, h2⟩ := Go.Proofs.Ytjlkndkedknocaa.onto n (fun i => (nth f i).toNat) (fun i hi => by have := h.rng i (by rw [h.len]; exact hi); omega) (fun i j hij hj e => by
  have a := h.rng i (by rw [h.len]; omega)
  have b := h.rng j (by rw [h.len]; omega)
  have e' : (nth f i).toNat = (nth f j).toNat := e
  exact h.inj i j hij hj (by omega)) v hv
 have := h.rng i (by rw [h.len]; exact h1)
 exact ⟨i, h1, by have h2' : (nth f i).toNat = v := h2; omega⟩
theorem PermL.inv {n : Nat} {f : List Int} (h : PermL n f) : PermL n (invL f) := by
 have hl : (invL f).length = n := by rw [invL_length, h.len]
 have key : ∀ v, v < n → ∃ i, i < n ∧ nth f i = v ∧ nth (invL f) v = i := fun v hv => by
  obtain ⟨i, h1, h2⟩ := h.onto hv
  refine ⟨i, h1, h2, ?_⟩
  have := invL_at h h1
  rw [h2] at this
  exact this
 refine ⟨hl, fun v hv => ?_, fun u v huv hv e => ?_⟩
 ·obtain ⟨i, h1, h2, h3⟩ := key v (by omega)
  rw [h3]; omega
 ·obtain ⟨i, h1, h2, h3⟩ := key u (by omega)
  obtain ⟨j, h4, h5, h6⟩ := key v hv
  rw [h3, h6] at e
  have : i = j := by omega
  subst this
  omega
def actL (A B : List (List Int)) (p : Int) (y : Int) : Int := if 0 < y then nth (nthR A (y - 1).toNat) p.toNat else nth (nthR B (-y - 1).toNat) p.toNat
def actW (A B : List (List Int)) (w : List Int) (p : Int) : Int := w.foldl (actL A B) p
def actN (A B : List (List Int)) (w : List Int) (p : Int) : Nat → Int
 | 0 => p
 | j + 1 => actL A B (actN A B w p j) (nth w j)
theorem actW_eq (A B : List (List Int)) (w : List Int) (p : Int) : actW A B w p = actN A B w p w.length := by
 have key : ∀ j, j ≤ w.length → (w.take j).foldl (actL A B) p = actN A B w p j := by
  intro j
  induction j with
  | zero => intro _; rfl
  | succ j ih =>
   intro hj
   have e : w.take (j + 1) = w.take j ++ [nth w j] := by rw [List.take_add_one, List.getElem?_eq_getElem (by omega), nth_eq (by omega)]; rfl
   rw [e, List.foldl_append, ih (by omega)]
   rfl
 have := key w.length (Nat.le_refl _)
 rw [List.take_length] at this
 exact this
def RowsOk (n : Nat) (A : List (List Int)) : Prop := ∀ k, k < A.length → (nthR A k).length = n ∧ InN n (nthR A k)
def LetOk (g : Nat) (w : List Int) : Prop := ∀ j, j < w.length → nth w j ≠ 0 ∧ -(g : Int) ≤ nth w j ∧ nth w j ≤ g
theorem actN_in {A B : List (List Int)} {w : List Int} {n : Nat} (hA : RowsOk n A) (hB : RowsOk n B) (hw : LetOk A.length w) (hl : B.length = A.length) {p : Int} (hp : 0 ≤ p ∧ p < n) : ∀ j, j ≤ w.length → 0 ≤ actN A B w p j ∧ actN A B w p j < n := by
 intro j
 induction j with
 | zero => intro _; exact hp
 | succ j ih =>
  intro hj
  have h1 := ih (by omega)
  have h2 := hw j (by omega)
  simp only [actN, actL]
  split
  ·have h3 := hA (nth w j - 1).toNat (by omega)
   exact h3.2 _ (by rw [h3.1]; omega)
  ·have h3 := hB (-nth w j - 1).toNat (by omega)
   exact h3.2 _ (by rw [h3.1]; omega)
def TrivL (A B : List (List Int)) (w : List Int) (n : Nat) : Prop := ∀ i : Nat, i < n → actW A B w i = i
theorem Ints.at {h : List O} {v : Value} {xs : List Int} (hi : Ints h v xs) : ∃ a b o c, v = .slice a xs.length c ∧ (0 < xs.length → a = some ⟨b, o, none⟩) ∧ (∀ i, i < xs.length → rdO h[b]? (o + i) = some (.int .i64 (nth xs i))) := by
 obtain ⟨a, b, o, c, h1, h2, h3, _⟩ := hi
 exact ⟨a, b, o, c, h1, h2, fun i hi => by rw [← rd_def]; exact h3 i hi⟩
theorem Mat.at {h : List O} {v : Value} {A : List (List Int)} (hm : Mat h v A) : ∃ a b o c, ∃ vs : Nat → Value, v = .slice a A.length c ∧ (0 < A.length → a = some ⟨b, o, none⟩) ∧ (∀ i, i < A.length → rdO h[b]? (o + i) = some (vs i) ∧ Ints h (vs i) (nthR A i)) := by
 obtain ⟨a, b, o, c, vs, h1, h2, h3, _⟩ := hm
 exact ⟨a, b, o, c, vs, h1, h2, fun i hi => by rw [← rd_def]; exact h3 i hi⟩
end Go.Ai
namespace Go.Proofs.Ytjlkndkedknocaa
open Go Go.Ai
attribute [local instance] Classical.propDecidable
variable {E : Env} (hE : OE E)
include hE
theorem inverse_ {h : List O} {v : Value} {f : List Int} (hv : Ints h v f) (hr : InN f.length f) (hs : f.length ≤ 100000) :
  DR E 145 [v] ⟨h, h.length⟩ (.ret (.slice (some ⟨h.length, 0, none⟩) f.length f.length)) ⟨h ++ [.cells (intsC (invL f)) 3 (some 0)], h.length⟩ := by
 refine hE.fn (body := rb145) rfl ?_
 unfold rb145
 obtain ⟨a, b, o, c, rfl, ha, hrd⟩ := hv.at
 have e1 : (f.length : Int) * 8 ≤ 140737488355328 := by omega
 have e2 : (f.length : Int) < 4611686018427387904 := by omega
 simp [e1, e2]
 refine DW_loop (fun kk fr st => ∃ (i : Nat), i + kk = f.length ∧ st = ⟨h ++ [.cells (intsC (invN f i)) 3 (some 0)], h.length⟩ ∧ get fr 3 = .slice (some ⟨h.length, 0, none⟩) f.length f.length ∧ get fr 9 = .slice a f.length c ∧ get fr 10 = .int .i64 f.length ∧ get fr 11 = .int .i64 i) ?_ (k := f.length) ?_
 ·rintro kk fr st ⟨i, hik, rfl, g3, g9, g10, g11⟩
  by_cases hi : i < f.length
  ·have hw : IntKind.i64.wrap ((i : Int) + 1) = (i : Int) + 1 := by rw [w64_id] <;> omega
   obtain rfl := ha (by omega)
   have hbl : b < h.length := by
    have := hrd i hi
    unfold rdO at this
    split at this
    ·rename_i hb; exact (List.getElem?_eq_some_iff.1 hb).1
    ·cases this
   have hrd' : ∀ l, rdO (h ++ l)[b]? (o + i) = some (.int .i64 (nth f i)) := fun l => by rw [List.getElem?_append_left hbl]; exact hrd i hi
   have hri := hr i hi
   obtain ⟨y, hy⟩ : ∃ y : Nat, nth f i = y := ⟨(nth f i).toNat, by omega⟩
   have hyl : y < f.length := by omega
   have hil := invN_length f i
   have hyl2 : y + 1 ≤ (invN f i).length := by omega
   have hiN : (invN f i).set y i = invN f (i + 1) := by simp only [invN, hy]; rfl
   simp [g3, g9, g10, g11, hi, rd_def, hrd', hy, hyl, wrN_at0, hyl2, intsC_set, set_at0, hiN, hw]
   exact ⟨kk - 1, by omega, i + 1, by omega, rfl, by omega⟩
  ·have hin : i = f.length := by omega
   subst hin
   simp [g3, g9, g10, g11, endK_ret]
   unfold pairQ back
   rw [if_neg (by simp [Out.scalar, scalar, flat1, flat])]
   exact ⟨rfl, rfl⟩
 ·exact ⟨0, by omega, by simp [rep, intsC, invN], by simp⟩
theorem isTrivial_ {h : List O} {va vb vw : Value} {A B : List (List Int)} {w : List Int} {n : Nat} (hA : Mat h va A) (hB : Mat h vb B) (hw : Ints h vw w) (rA : RowsOk n A) (rB : RowsOk n B) (hl : B.length = A.length) (hL : LetOk A.length w) (hs : A.length ≤ 100000 ∧ n ≤ 100000) :
  DR E 146 [va, vb, vw, .int .i64 n] ⟨h, h.length⟩ (.ret (.bool (decide (TrivL A B w n)))) ⟨h, h.length⟩ := by
 refine hE.fn (body := rb146) rfl ?_
 unfold rb146
 obtain ⟨aa, ab, ao, ac, avs, rfl, ha, har⟩ := hA.at
 obtain ⟨ba, bb, bo, bc, bvs, rfl, hb, hbr⟩ := hB.at
 obtain ⟨wa, wb, wo, wc, rfl, hwa, hwr⟩ := hw.at
 have hwlen : w.length < 2 ^ 62 := by obtain ⟨_, _, _, _, _, _, _, _, h5⟩ := hw; exact h5
 simp
 refine DW_loop (fun kk fr st => ∃ (i : Nat), i + kk = n ∧ st = ⟨h, h.length⟩ ∧ (∀ i', i' < i → actW A B w i' = i') ∧ get fr 0 = .slice aa A.length ac ∧ get fr 1 = .slice ba B.length bc ∧ get fr 2 = .slice wa w.length wc ∧ get fr 13 = .int .i64 n ∧ get fr 14 = .int .i64 i) ?_ (k := n) ?_
 ·rintro kk fr st ⟨i, hik, rfl, hd, g0, g1, g2, g13, g14⟩
  by_cases hi : i < n
  ·have hwi : IntKind.i64.wrap ((i : Int) + 1) = (i : Int) + 1 := by rw [w64_id] <;> omega
   simp [g0, g1, g2, g13, g14, hi]
   refine DW_loop (fun kk' fr st => ∃ (j : Nat), j + kk' = w.length ∧ st = ⟨h, h.length⟩ ∧ get fr 0 = .slice aa A.length ac ∧ get fr 1 = .slice ba B.length bc ∧ get fr 2 = .slice wa w.length wc ∧ get fr 13 = .int .i64 n ∧ get fr 14 = .int .i64 i ∧ get fr 9 = .int .i64 i ∧ get fr 10 = .int .i64 (actN A B w i j) ∧ get fr 18 = .slice wa w.length wc ∧ get fr 19 = .int .i64 w.length ∧ get fr 20 = .int .i64 j) ?_ (k := w.length) ?_
   ·clear g0 g1 g2 g13 g14
    rintro kk' fr st ⟨j, hjk, rfl, g0, g1, g2, g13, g14, g9, g10, g18, g19, g20⟩
    by_cases hj : j < w.length
    ·have hwj : IntKind.i64.wrap ((j : Int) + 1) = (j : Int) + 1 := by rw [w64_id] <;> omega
     obtain rfl := hwa (by omega)
     have hin := actN_in rA rB hL hl (p := i) (by omega) j (by omega)
     obtain ⟨p, hp⟩ : ∃ p : Nat, actN A B w i j = p := ⟨(actN A B w i j).toNat, by omega⟩
     have hlt := hL j hj
     rw [hp] at g10 hin
     by_cases hpos : 0 < nth w j
     ·obtain ⟨y, hy⟩ : ∃ y : Nat, nth w j - 1 = y := ⟨(nth w j - 1).toNat, by omega⟩
      have hwy : IntKind.i64.wrap (nth w j - 1) = y := by rw [w64_id] <;> omega
      have hyl : y < A.length := by omega
      obtain rfl := ha (by omega)
      obtain ⟨r1, r2⟩ := har y hyl
      have hrow := rA y hyl
      obtain ⟨ra, rb, ro, rc, hrv, hra, hrr⟩ := r2.at
      obtain rfl := hra (by omega)
      have hpl : p < (nthR A y).length := by omega
      rw [hrv] at r1
      have hnext : actN A B w i (j + 1) = nth (nthR A y) p := by
       simp only [actN, actL, hp]
       rw [if_pos hpos, hy]
       simp
      simp [g0, g1, g2, g13, g14, g9, g10, g18, g19, g20, hj, rd_def, hwr j hj, hpos, hwy, hyl, r1, hpl, hrr p hpl, hwj]
      exact ⟨kk' - 1, by omega, j + 1, by omega, hnext.symm, by omega⟩
     ·obtain ⟨y, hy⟩ : ∃ y : Nat, -nth w j - 1 = y := ⟨(-nth w j - 1).toNat, by omega⟩
      have hwn : IntKind.i64.wrap (-nth w j) = -nth w j := by rw [w64_id] <;> omega
      have hwy : IntKind.i64.wrap (-nth w j - 1) = y := by rw [w64_id] <;> omega
      have hyl : y < B.length := by omega
      obtain rfl := hb (by omega)
      obtain ⟨r1, r2⟩ := hbr y hyl
      have hrow := rB y hyl
      obtain ⟨ra, rb, ro, rc, hrv, hra, hrr⟩ := r2.at
      obtain rfl := hra (by omega)
      have hpl : p < (nthR B y).length := by omega
      rw [hrv] at r1
      have hnext : actN A B w i (j + 1) = nth (nthR B y) p := by
       simp only [actN, actL, hp]
       rw [if_neg hpos, hy]
       simp
      simp [g0, g1, g2, g13, g14, g9, g10, g18, g19, g20, hj, rd_def, hwr j hj, hpos, hwn, hwy, hyl, r1, hpl, hrr p hpl, hwj]
      exact ⟨kk' - 1, by omega, j + 1, by omega, hnext.symm, by omega⟩
    ·have hjw : j = w.length := by omega
     subst hjw
     rw [← actW_eq] at g10
     by_cases he : actW A B w i = i
     ·simp [g0, g1, g2, g13, g14, g9, g10, g18, g19, g20, he, hwi]
      refine ⟨kk - 1, by omega, i + 1, by omega, fun i' hi' => ?_, by omega⟩
      by_cases e : i' = i
      ·rw [e]; exact he
      ·exact hd i' (by omega)
     ·have hnt : ¬ TrivL A B w n := fun ht => he (ht i hi)
      simp [g0, g1, g2, g13, g14, g9, g10, g18, g19, g20, he, hnt, endK_ret]
   ·exact ⟨0, by omega, rfl, by simp [g0, g1, g2, g13, g14, actN]⟩
  ·have hin : i = n := by omega
   subst hin
   have ht : TrivL A B w i := hd
   simp [g0, g1, g2, g13, g14, ht, endK_ret]
 ·exact ⟨0, by omega, rfl, fun i' h => by omega, by simp⟩
end Go.Proofs.Ytjlkndkedknocaa
namespace Go.Ai
def boolsC (bs : List Bool) : List Value := bs.map .bool
def bnth (bs : List Bool) (i : Nat) : Bool := bs.getD i false
@[simp] theorem boolsC_length (bs : List Bool) : (boolsC bs).length = bs.length := by simp [boolsC]
theorem boolsC_get {bs : List Bool} {i : Nat} (hi : i < bs.length) : (boolsC bs)[i]? = some (.bool (bnth bs i)) := by simp [boolsC, hi, bnth]
@[simp] theorem boolsC_getElem {bs : List Bool} {i : Nat} (h : i < (boolsC bs).length) : (boolsC bs)[i] = .bool (bnth bs i) := by
 have h' : i < bs.length := by simpa using h
 simp [boolsC, bnth, h']
theorem boolsC_set (bs : List Bool) (i : Nat) (x : Bool) : (boolsC bs).set i (.bool x) = boolsC (bs.set i x) := by simp [boolsC, List.map_set]
theorem bnth_set {bs : List Bool} {i j : Nat} {x : Bool} (hi : i < bs.length) : bnth (bs.set i x) j = if j = i then x else bnth bs j := by
 unfold bnth
 by_cases h : j = i
 ·subst h; simp [hi]
 ·rw [if_neg h, List.getD_eq_getElem?_getD, List.getElem?_set_ne (Ne.symm h), ← List.getD_eq_getElem?_getD]
theorem bnth_rep {n i : Nat} {x : Bool} (hi : i < n) : bnth (List.replicate n x) i = x := by simp [bnth, hi]
end Go.Ai
namespace Go.Proofs.Ytjlkndkedknocaa
open Go Go.Ai
attribute [local instance] Classical.propDecidable
def MixG (G : Dg) : Prop := G.n ≠ 0 ∧ G.L = 0 ∧ (regs G).length = G.n + 2 ∧ ∀ a, a < 2 * G.n → (∃ c, c < G.n ∧ SameC G (G.X c 0) a) ∧ ∃ c, c < G.n ∧ SameC G (G.X c 1) a
variable {E : Env} (hE : OE E)
include hE
end Go.Proofs.Ytjlkndkedknocaa
namespace Go.Proofs.Ytjlkndkedknocaa
open Go Go.Ai
attribute [local instance] Classical.propDecidable
def PermB (f : List Int) : Prop := PermL f.length f ∧ 1 ≤ f.length ∧ f.length ≤ 200
def PermsA (A : List (List Int)) : Prop := ∀ i, i < A.length → (nthR A i).length = (nthR A 0).length ∧ PermB (nthR A i)
def invA (A : List (List Int)) : List (List Int) := A.map invL
def HomA (G : Dg) (A : List (List Int)) : Prop := ∀ i, i < G.n → TrivL A (invA A) (relOf G i) (nthR A 0).length
noncomputable def checkD (G : Dg) (A : List (List Int)) : Int := if (A.length : Int) = arC G + G.L then (if PermsA A then (if HomA G A then 0 else 5) else 1) else 1
theorem invA_length (A : List (List Int)) : (invA A).length = A.length := by simp [invA]
theorem invA_at {A : List (List Int)} {i : Nat} (h : i < A.length) : nthR (invA A) i = invL (nthR A i) := by simp [invA, nthR, h]
theorem PermsA.rows {A : List (List Int)} (h : PermsA A) : RowsOk (nthR A 0).length A := fun k hk => by
 obtain ⟨h1, h2, _⟩ := h k hk
 exact ⟨h1, by rw [← h1]; exact h2.rng⟩
theorem PermsA.inv {A : List (List Int)} (h : PermsA A) : RowsOk (nthR A 0).length (invA A) := fun k hk => by
 rw [invA_length] at hk
 obtain ⟨h1, h2, _⟩ := h k hk
 have := h2.inv
 rw [invA_at hk, ← h1]
 exact ⟨this.len, this.rng⟩
theorem relOf_let {G : Dg} (hG : GoodG G) {g i : Nat} (hi : i < G.n) (hg : arC G ≤ g) : LetOk g (relOf G i) := by
 intro j hj
 have h0 := gen_le hG hi (show 0 < 4 by omega)
 have h1 := gen_le hG hi (show 1 < 4 by omega)
 have h2 := gen_le hG hi (show 2 < 4 by omega)
 have hj4 : j < 4 := by simpa [relOf] using hj
 unfold relOf
 match j, hj4 with
 | 0, _ => rcases hG.sign i hi with e | e <;> simp [nth, e] <;> omega
 | 1, _ => simp [nth]; omega
 | 2, _ => rcases hG.sign i hi with e | e <;> simp [nth, e] <;> omega
 | 3, _ => simp [nth]; omega
variable {E : Env} (hE : OE E)
include hE
theorem isPerm_ {h : List O} {v : Value} {f : List Int} (hv : Ints h v f) (hroom : f.length * 8 ≤ roomMax) :
  DR E 144 [v] ⟨h, h.length⟩ (.ret (.bool (decide (PermB f)))) ⟨h, h.length⟩ := by
 refine hE.fn (body := rb144) rfl ?_
 unfold rb144
 simp only [roomMax] at hroom
 obtain ⟨a, b, o, c, rfl, ha, hrd⟩ := hv.at
 have e1 : (f.length : Int) ≤ 140737488355328 := by omega
 have e2 : (f.length : Int) < 4611686018427387904 := by omega
 have hbs : ∀ l, (Out.ret (.bool l)).scalar = true := fun _ => rfl
 simp [e1, e2]
 refine DW_loop (fun kk fr st => ∃ (i : Nat) (bs : List Bool), i + kk = f.length ∧ st = ⟨h ++ [.cells (boolsC bs) 4 (some 0)], h.length⟩ ∧ bs.length = f.length ∧ (∀ y, y < f.length → (bnth bs y = true ↔ ∃ j, j < i ∧ nth f j = y)) ∧ (∀ j, j < i → 0 ≤ nth f j ∧ nth f j < f.length) ∧ (∀ j j', j < j' → j' < i → nth f j ≠ nth f j') ∧
  get fr 0 = .slice a f.length c ∧ get fr 3 = .slice (some ⟨h.length, 0, none⟩) f.length f.length ∧ get fr 9 = .slice a f.length c ∧ get fr 10 = .int .i64 f.length ∧ get fr 11 = .int .i64 i) ?_ (k := f.length) ?_
 ·rintro kk fr st ⟨i, bs, hik, rfl, hbl, hbs1, hrg, hij, g0, g3, g9, g10, g11⟩
  by_cases hi : i < f.length
  ·have hw : IntKind.i64.wrap ((i : Int) + 1) = (i : Int) + 1 := by rw [w64_id] <;> omega
   obtain rfl := ha (by omega)
   have hbl' : b < h.length := by
    have := hrd i hi
    unfold rdO at this
    split at this
    ·rename_i hb; exact (List.getElem?_eq_some_iff.1 hb).1
    ·cases this
   have hrd' : ∀ l, rdO (h ++ l)[b]? (o + i) = some (.int .i64 (nth f i)) := fun l => by rw [List.getElem?_append_left hbl']; exact hrd i hi
   by_cases c1 : nth f i < 0
   ·have hno : ¬ PermB f := fun hp => by have := hp.1.rng i (by omega); omega
    simp [g0, g3, g9, g10, g11, hi, rd_def, hrd', c1, endK_ret, hno, back_scalar, Out.scalar, scalar, flat1, flat]
   ·by_cases c2 : (f.length : Int) ≤ nth f i
    ·have hno : ¬ PermB f := fun hp => by have := hp.1.rng i (by omega); omega
     simp [g0, g3, g9, g10, g11, hi, rd_def, hrd', c1, c2, endK_ret, hno, back_scalar, Out.scalar, scalar, flat1, flat]
    ·obtain ⟨y, hy⟩ : ∃ y : Nat, nth f i = y := ⟨(nth f i).toNat, by omega⟩
     have hyl : y < f.length := by omega
     have hyl2 : y < bs.length := by omega
     have hyl3 : y + 1 ≤ f.length := by omega
     have c1' : ¬ ((y : Int) < 0) := by omega
     have c2' : ¬ (f.length ≤ y) := by omega
     by_cases c3 : bnth bs y = true
     ·obtain ⟨j, hj, hjy⟩ := (hbs1 y hyl).1 c3
      have hno : ¬ PermB f := fun hp => hp.1.inj j i hj (by omega) (by rw [hjy, hy])
      simp [g0, g3, g9, g10, g11, hi, rd_def, hrd', hy, c1', c2', hyl, rd_at0, app_at0, boolsC_get hyl2, c3, endK_ret, hno, back_scalar, Out.scalar, scalar, flat1, flat]
     ·have c3' : bnth bs y = false := by simpa using c3
      simp [g0, g3, g9, g10, g11, hi, rd_def, hrd', hy, c1', c2', hyl, rd_at0, app_at0, boolsC_get hyl2, c3', wrN_at0, hbl, hyl3, boolsC_set, set_at0, hw]
      refine ⟨kk - 1, by omega, i + 1, by omega, bs.set y true, rfl, by simp [hbl], fun z hz => ?_, fun j hj => ?_, fun j j' h1 h2 => ?_, by omega⟩
      ·rw [bnth_set hyl2]
       by_cases e : z = y
       ·rw [if_pos e]
        exact ⟨fun _ => ⟨i, by omega, by rw [hy, e]⟩, fun _ => rfl⟩
       ·rw [if_neg e, hbs1 z hz]
        constructor
        ·rintro ⟨j, h1, h2⟩; exact ⟨j, by omega, h2⟩
        ·rintro ⟨j, h1, h2⟩
         by_cases ej : j = i
         ·rw [ej, hy] at h2; omega
         ·exact ⟨j, by omega, h2⟩
      ·by_cases ej : j = i
       ·rw [ej]; omega
       ·exact hrg j (by omega)
      ·by_cases ej : j' = i
       ·rw [ej, hy]
        intro e
        exact c3 ((hbs1 y hyl).2 ⟨j, by omega, e⟩)
       ·exact hij j j' h1 (by omega)
  ·have hin : i = f.length := by omega
   subst hin
   have hP : PermL f.length f := ⟨rfl, fun j hj => hrg j hj, hij⟩
   by_cases c1 : 1 ≤ f.length
   ·have c1' : (1 : Int) ≤ f.length := by omega
    by_cases c2 : f.length ≤ 200
    ·have c2' : (f.length : Int) ≤ 200 := by omega
     have hyes : PermB f := ⟨hP, c1, c2⟩
     simp [g0, g3, g9, g10, g11, c1', c2', endK_ret, hyes, back_scalar, Out.scalar, scalar, flat1, flat]
    ·have c2' : ¬ (f.length : Int) ≤ 200 := by omega
     have hno : ¬ PermB f := fun hp => c2 hp.2.2
     simp [g0, g3, g9, g10, g11, c1', c2', endK_ret, hno, back_scalar, Out.scalar, scalar, flat1, flat]
   ·have c1' : ¬ (1 : Int) ≤ f.length := by omega
    have hno : ¬ PermB f := fun hp => c1 hp.2.1
    simp [g0, g3, g9, g10, g11, c1', endK_ret, hno, back_scalar, Out.scalar, scalar, flat1, flat]
 ·refine ⟨0, List.replicate f.length false, by omega, by simp [rep, boolsC], by simp, fun y hy => ?_, fun j h => by omega, fun j j' h1 h2 => by omega, by simp⟩
  rw [bnth_rep hy]
  simp
end Go.Proofs.Ytjlkndkedknocaa
namespace Go.Proofs.Ytjlkndkedknocaa
open Go Go.Ai
attribute [local instance] Classical.propDecidable
variable {E : Env} (hE : OE E)
include hE
theorem actR_ {h : List O} {va vw : Value} {A : List (List Int)} {w : List Int} {n p : Nat} (hA : Mat h va A) (hw : Ints h vw w) (hP : ∀ k, k < A.length → PermL n (nthR A k)) (hL : LetOk A.length w) (hs : A.length ≤ 100000 ∧ n ≤ 100000) (hp : p < n) :
  DR E 72 [va, vw, .int .i64 p] ⟨h, h.length⟩ (.ret (.int .i64 (actW A (invA A) w p))) ⟨h, h.length⟩ := by
 refine hE.fn (body := rb72) rfl ?_
 unfold rb72
 obtain ⟨aa, ab, ao, ac, avs, rfl, ha, har⟩ := hA.at
 obtain ⟨wa, wb, wo, wc, rfl, hwa, hwr⟩ := hw.at
 have hwlen : w.length < 2 ^ 62 := by obtain ⟨_, _, _, _, _, _, _, _, h5⟩ := hw; exact h5
 have rA : RowsOk n A := fun k hk => ⟨(hP k hk).len, (hP k hk).rng⟩
 have rB : RowsOk n (invA A) := fun k hk => by
  rw [invA_length] at hk
  rw [invA_at hk]
  exact ⟨(hP k hk).inv.len, (hP k hk).inv.rng⟩
 simp
 refine DW_loop (fun kk fr st => ∃ (j : Nat), j + kk = w.length ∧ st = ⟨h, h.length⟩ ∧ get fr 0 = .slice aa A.length ac ∧ get fr 2 = .int .i64 (actN A (invA A) w p j) ∧ get fr 10 = .slice wa w.length wc ∧ get fr 11 = .int .i64 w.length ∧ get fr 12 = .int .i64 j) ?_ (k := w.length) ?_
 ·rintro kk fr st ⟨j, hjk, rfl, g0, g2, g10, g11, g12⟩
  by_cases hj : j < w.length
  ·have hwj : IntKind.i64.wrap ((j : Int) + 1) = (j : Int) + 1 := by rw [w64_id] <;> omega
   obtain rfl := hwa (by omega)
   have hin := actN_in rA rB hL (invA_length A) (p := (p : Int)) (by omega) j (by omega)
   obtain ⟨q, hq⟩ : ∃ q : Nat, actN A (invA A) w p j = q := ⟨(actN A (invA A) w p j).toNat, by omega⟩
   have hlt := hL j hj
   rw [hq] at g2 hin
   by_cases hpos : 0 < nth w j
   ·obtain ⟨y, hy⟩ : ∃ y : Nat, nth w j - 1 = y := ⟨(nth w j - 1).toNat, by omega⟩
    have hwy : IntKind.i64.wrap (nth w j - 1) = y := by rw [w64_id] <;> omega
    have hyl : y < A.length := by omega
    obtain rfl := ha (by omega)
    obtain ⟨r1, r2⟩ := har y hyl
    have hrow := rA y hyl
    obtain ⟨ra, rb, ro, rc, hrv, hra, hrr⟩ := r2.at
    obtain rfl := hra (by omega)
    have hpl : q < (nthR A y).length := by omega
    rw [hrv] at r1
    have hnext : actN A (invA A) w p (j + 1) = nth (nthR A y) q := by
     simp only [actN, actL, hq]
     rw [if_pos hpos, hy]
     simp
    simp [g0, g2, g10, g11, g12, hj, rd_def, hwr j hj, hpos, hwy, hyl, r1, hpl, hrr q hpl, hwj]
    exact ⟨kk - 1, by omega, j + 1, by omega, hnext.symm, by omega⟩
   ·obtain ⟨y, hy⟩ : ∃ y : Nat, -nth w j - 1 = y := ⟨(-nth w j - 1).toNat, by omega⟩
    have hwn : IntKind.i64.wrap (-nth w j) = -nth w j := by rw [w64_id] <;> omega
    have hwy : IntKind.i64.wrap (-nth w j - 1) = y := by rw [w64_id] <;> omega
    have hyl : y < A.length := by omega
    obtain rfl := ha (by omega)
    obtain ⟨r1, r2⟩ := har y hyl
    have hrow := hP y hyl
    have hrl := hrow.len
    obtain ⟨ra, rb, ro, rc, hrv, hra, hrr⟩ := r2.at
    obtain rfl := hra (by omega)
    rw [hrv] at r1
    obtain ⟨i0, hi0, hi1⟩ := hrow.onto (v := q) (by omega)
    have hnext : actN A (invA A) w p (j + 1) = i0 := by
     simp only [actN, actL, hq]
     rw [if_neg hpos, hy]
     have := invL_at hrow hi0
     rw [hi1] at this
     rw [Int.toNat_natCast, invA_at hyl]
     exact this
    simp [g0, g2, g10, g11, g12, hj, rd_def, hwr j hj, hpos, hwj]
    refine DW_loop (fun kk' fr st => ∃ (k : Nat), k + kk' = i0 ∧ st = ⟨h, h.length⟩ ∧ get fr 0 = .slice (some ⟨ab, ao, none⟩) A.length ac ∧ get fr 2 = .int .i64 q ∧ get fr 8 = .int .i64 (nth w j) ∧ get fr 9 = .int .i64 k ∧ get fr 10 = .slice (some ⟨wb, wo, none⟩) w.length wc ∧ get fr 11 = .int .i64 w.length ∧ get fr 12 = .int .i64 j) ?_ (k := i0) ?_
    ·clear g0 g2 g10 g11 g12
     rintro kk' fr st ⟨k, hkk, rfl, g0, g2, g8, g9, g10, g11, g12⟩
     have hkl : k < (nthR A y).length := by omega
     have hwk : IntKind.i64.wrap ((k : Int) + 1) = (k : Int) + 1 := by rw [w64_id] <;> omega
     by_cases hk : k = i0
     ·subst hk
      simp [g0, g2, g8, g9, g10, g11, g12, rd_def, hwn, hwy, hyl, r1, hkl, hrr k hkl, hi1, hwj]
      exact ⟨kk - 1, by omega, j + 1, by omega, hnext.symm, by omega⟩
     ·have hne : ¬ nth (nthR A y) k = (q : Int) := fun e => by
       have := hrow.inj k i0 (by omega) hi0
       rw [e, hi1] at this
       exact this rfl
      simp [g0, g2, g8, g9, g10, g11, g12, rd_def, hwn, hwy, hyl, r1, hkl, hrr k hkl, hne, hwk]
      exact ⟨kk' - 1, by omega, k + 1, by omega, by omega⟩
    ·simp [g0, g2, g10, g11, g12]
  ·have hjw : j = w.length := by omega
   subst hjw
   simp [g0, g2, g10, g11, g12, endK_ret, ← actW_eq]
 ·exact ⟨0, by omega, rfl, by simp [actN]⟩
theorem trivialR_ {h : List O} {va vw : Value} {A : List (List Int)} {w : List Int} (hA : Mat h va A) (hw : Ints h vw w) (hP : ∀ k, k < A.length → PermL (nthR A 0).length (nthR A k)) (hL : LetOk A.length w) (hs : A.length ≤ 100000 ∧ (nthR A 0).length ≤ 100000) :
  DR E 66 [va, vw] ⟨h, h.length⟩ (.ret (.bool (decide (A.length = 0 ∨ TrivL A (invA A) w (nthR A 0).length)))) ⟨h, h.length⟩ := by
 refine hE.fn (body := rb66) rfl ?_
 unfold rb66
 have hA' := hA
 obtain ⟨aa, ab, ao, ac, avs, rfl, ha, har⟩ := hA'.at
 have hsc : ∀ b : Bool, (Out.ret (.bool b)).scalar = true := fun _ => rfl
 rcases Nat.eq_zero_or_pos A.length with h0 | h0
 ·have h0' : (A.length : Int) = 0 := by omega
  simp [h0, h0', endK_ret, back, hsc]
 ·have h0' : ¬ (A.length : Int) = 0 := by omega
  have h0n : ¬ A.length = 0 := by omega
  have h0i : (0 : Int) < A.length := by omega
  obtain rfl := ha h0
  obtain ⟨r1, r2⟩ := har 0 h0
  obtain ⟨ra, rb, ro, rc, hrv, hra, hrr⟩ := r2.at
  rw [hrv, Nat.add_zero] at r1
  obtain ⟨n, hn⟩ : ∃ n, n = (nthR A 0).length := ⟨_, rfl⟩
  rw [← hn] at hs hP r1 ⊢
  simp [h0', h0n, h0i, rd_def, r1, h0]
  refine DW_loop (fun kk fr st => ∃ (i : Nat), i + kk = n ∧ st = ⟨h, h.length⟩ ∧ (∀ j : Nat, j < i → actW A (invA A) w j = j) ∧ get fr 0 = .slice (some ⟨ab, ao, none⟩) A.length ac ∧ get fr 1 = vw ∧ get fr 12 = .int .i64 n ∧ get fr 13 = .int .i64 i) ?_ (k := n) ?_
  ·rintro kk fr st ⟨i, hik, rfl, hd, g0, g1, g12, g13⟩
   by_cases hi : i < n
   ·have hwi : IntKind.i64.wrap ((i : Int) + 1) = (i : Int) + 1 := by rw [w64_id] <;> omega
    have hac := actR_ hE hA hw hP hL hs hi
    by_cases he : actW A (invA A) w i = i
    ·rw [he] at hac
     simp [g0, g1, g12, g13, hi, DC_of hac, hwi]
     refine ⟨kk - 1, by omega, i + 1, by omega, fun j hj => ?_, by omega⟩
     by_cases e : j = i
     ·rw [e]; exact he
     ·exact hd j (by omega)
    ·have hnt : ¬ TrivL A (invA A) w n := fun ht => he (ht i hi)
     simp [g0, g1, g12, g13, hi, DC_of hac, he, hnt, endK_ret, back, hsc]
   ·have hin : i = n := by omega
    have ht : TrivL A (invA A) w n := fun j hj => hd j (by omega)
    simp [g0, g1, g12, g13, hin, ht, endK_ret, back, hsc]
  ·exact ⟨0, by omega, rfl, fun j hj => by omega, by simp⟩
end Go.Proofs.Ytjlkndkedknocaa
namespace Go.Proofs.Ytjlkndkedknocaa
open Go Go.Ai
attribute [local instance] Classical.propDecidable
variable {E : Env} (hE : OE E)
include hE
theorem homR_ {h : List O} {va v : Value} {A R : List (List Int)} {g : Int} (hA : Mat h va A) (hR : Mat h v R) (hP : ∀ k, k < A.length → PermL (nthR A 0).length (nthR A k)) (hL : ∀ i, i < R.length → LetOk A.length (nthR R i)) (hs : A.length ≤ 100000 ∧ (nthR A 0).length ≤ 100000) :
  DR E 151 [.agg #[.int .i64 g, v], va] ⟨h, h.length⟩ (.ret (.bool (decide (∀ i, i < R.length → A.length = 0 ∨ TrivL A (invA A) (nthR R i) (nthR A 0).length)))) ⟨h, h.length⟩ := by
 refine hE.fn (body := rb151) rfl ?_
 unfold rb151
 have hRl : R.length < 2 ^ 62 := by obtain ⟨_, _, _, _, _, _, _, _, h5⟩ := hR; exact h5
 have hsc : ∀ b : Bool, (Out.ret (.bool b)).scalar = true := fun _ => rfl
 obtain ⟨H, hH⟩ : ∃ H, H = h ++ [O.cells [.int .i64 g, v] 81 (some 0)] := ⟨_, rfl⟩
 have hsub : Sub h H := by rw [hH]; exact (Sub.refl _).app _
 have hAH := hA.sub hsub
 have hRH := hR.sub hsub
 have b0 : H[h.length]? = some (O.cells [.int .i64 g, v] 81 (some 0)) := by rw [hH, app_at0]; rfl
 have hj : joined ⟨H, h.length⟩ ⟨H, H.length⟩ = ⟨H, h.length⟩ := joined_mk _ _
 obtain ⟨ra, rb, ro, rc, rvs, rfl, hra, hrr⟩ := hRH.at
 obtain ⟨T, hT⟩ : ∃ T : Nat → Prop, ∀ i, T i = (A.length = 0 ∨ TrivL A (invA A) (nthR R i) (nthR A 0).length) := ⟨_, fun _ => rfl⟩
 obtain ⟨bb, hbb⟩ : ∃ bb, bb = decide (∀ i, i < R.length → A.length = 0 ∨ TrivL A (invA A) (nthR R i) (nthR A 0).length) := ⟨_, rfl⟩
 rw [← hbb]
 simp [← hH, rd_def, b0]
 refine DW_loop (fun kk fr st => ∃ (i : Nat), i + kk = R.length ∧ st = ⟨H, h.length⟩ ∧ (∀ j : Nat, j < i → T j) ∧ get fr 1 = va ∧ get fr 8 = .slice ra R.length rc ∧ get fr 9 = .int .i64 R.length ∧ get fr 10 = .int .i64 i) ?_ (k := R.length) ?_
 ·rintro kk fr st ⟨i, hik, rfl, hd, g1, g8, g9, g10⟩
  by_cases hi : i < R.length
  ·have hwi : IntKind.i64.wrap ((i : Int) + 1) = (i : Int) + 1 := by rw [w64_id] <;> omega
   obtain rfl := hra (by omega)
   obtain ⟨r1, r2⟩ := hrr i hi
   have ht := trivialR_ hE hAH r2 hP (hL i hi) hs
   by_cases he : T i
   ·rw [decide_eq_true ((hT i) ▸ he)] at ht
    simp [g1, g8, g9, g10, hi, rd_def, r1, DC_of ht, hj, hwi]
    refine ⟨kk - 1, by omega, i + 1, by omega, fun j hj => ?_, by omega⟩
    by_cases e : j = i
    ·rw [e]; exact he
    ·exact hd j (by omega)
   ·rw [decide_eq_false ((hT i) ▸ he)] at ht
    have hn : ¬ ∀ i, i < R.length → A.length = 0 ∨ TrivL A (invA A) (nthR R i) (nthR A 0).length := fun hall => he ((hT i).symm ▸ hall i hi)
    rw [decide_eq_false hn] at hbb
    subst hbb
    simp [g1, g8, g9, g10, hi, rd_def, r1, DC_of ht, hj, endK_ret, back, hsc]
  ·have hiR : i = R.length := by omega
   have hall : ∀ i, i < R.length → A.length = 0 ∨ TrivL A (invA A) (nthR R i) (nthR A 0).length := fun j hj => (hT j) ▸ hd j (by omega)
   rw [decide_eq_true hall] at hbb
   subst hbb
   simp [g1, g8, g9, g10, hiR, endK_ret, back, hsc]
 ·exact ⟨0, by omega, rfl, fun j hj => by omega, by simp⟩
end Go.Proofs.Ytjlkndkedknocaa
namespace Go.Ai
theorem slice_hi {h : List O} {b o n c i : Nat} (ht : tagOk h 1 b = true) (hi : i ≤ c) : sliceV h 1 (.slice (some ⟨b, o, none⟩) n c) none (some (.int .i64 i)) none = some (.slice (some ⟨b, o, none⟩) i c) := by
 have h1 : (i : Int) ≤ c := by omega
 simp [sliceV, mxB, hiB, loB, bound, sliceA, ht, h1, hi]
def PartI (h : List O) (v : Value) : Prop := ∃ a n c, v = .slice a n c ∧ n ≤ c ∧ ∀ b o, a = some ⟨b, o, none⟩ → tagOk h 1 b = true
end Go.Ai
namespace Go.Proofs.Ytjlkndkedknocaa
open Go Go.Ai
attribute [local instance] Classical.propDecidable
variable {E : Env} (hE : OE E)
include hE
theorem isPermR_ {h : List O} {v : Value} {f : List Int} {m : Nat} (hv : Ints h v f) (hp : PartI h v) :
  DR E 64 [v, .int .i64 m] ⟨h, h.length⟩ (.ret (.bool (decide (PermL m f)))) ⟨h, h.length⟩ := by
 refine hE.fn (body := rb64) rfl ?_
 unfold rb64
 have hfl : f.length < 2 ^ 62 := by obtain ⟨_, _, _, _, _, _, _, _, h5⟩ := hv; exact h5
 obtain ⟨a, b, o, c, rfl, ha, hr⟩ := hv.at
 obtain ⟨a', n', c', e, hnc, htag⟩ := hp
 obtain ⟨rfl, rfl, rfl⟩ := Value.slice.inj e
 have hsc : ∀ b : Bool, (Out.ret (.bool b)).scalar = true := fun _ => rfl
 obtain ⟨bb, hbb⟩ : ∃ bb, bb = decide (PermL m f) := ⟨_, rfl⟩
 rw [← hbb]
 by_cases hl : f.length = m
 ·have hl' : (f.length : Int) = m := by omega
  simp [hl']
  refine DW_loop (fun kk fr st => ∃ (i : Nat), i + kk = m ∧ st = ⟨h, h.length⟩ ∧ (∀ j, j < i → 0 ≤ nth f j ∧ nth f j < m) ∧ (∀ u w, u < w → w < i → nth f u ≠ nth f w) ∧ get fr 0 = .slice a f.length c ∧ get fr 1 = .int .i64 m ∧ get fr 13 = .slice a f.length c ∧ get fr 14 = .int .i64 m ∧ get fr 15 = .int .i64 i) ?_ (k := m) ?_
  ·rintro kk fr st ⟨i, hik, rfl, hd, hinj, g0, g1, g13, g14, g15⟩
   by_cases hi : i < m
   ·have hwi : IntKind.i64.wrap ((i : Int) + 1) = (i : Int) + 1 := by rw [w64_id] <;> omega
    have hif : i < f.length := by omega
    obtain rfl := ha (by omega)
    have ht := htag b o rfl
    have hsl := slice_hi (n := f.length) (o := o) (c := c) (i := i) ht (by omega)
    by_cases h1 : nth f i < 0
    ·have hn : ¬ PermL m f := fun hp => by have := (hp.rng i hif).1; omega
     rw [decide_eq_false hn] at hbb
     subst hbb
     simp [g0, g1, g13, g14, g15, hi, hif, rd_def, hr i hif, h1, endK_ret, back, hsc]
    ·by_cases h2 : (m : Int) ≤ nth f i
     ·have hn : ¬ PermL m f := fun hp => by have := (hp.rng i hif).2; omega
      rw [decide_eq_false hn] at hbb
      subst hbb
      simp [g0, g1, g13, g14, g15, hi, hif, rd_def, hr i hif, h1, h2, endK_ret, back, hsc]
     ·simp [g0, g1, g13, g14, g15, hi, hif, rd_def, hr i hif, h1, h2, hsl]
      refine DW_loop (fun kk' fr st => ∃ (j : Nat), j + kk' = i ∧ st = ⟨h, h.length⟩ ∧ (∀ u, u < j → nth f u ≠ nth f i) ∧ get fr 0 = .slice (some ⟨b, o, none⟩) f.length c ∧ get fr 1 = .int .i64 m ∧ get fr 6 = .int .i64 (nth f i) ∧ get fr 13 = .slice (some ⟨b, o, none⟩) f.length c ∧ get fr 14 = .int .i64 m ∧ get fr 15 = .int .i64 i ∧ get fr 29 = .slice (some ⟨b, o, none⟩) i c ∧ get fr 30 = .int .i64 i ∧ get fr 31 = .int .i64 j) ?_ (k := i) ?_
      ·clear g0 g1 g13 g14 g15
       rintro kk' fr st ⟨j, hjk, rfl, hd2, g0, g1, g6, g13, g14, g15, g29, g30, g31⟩
       by_cases hj : j < i
       ·have hwj : IntKind.i64.wrap ((j : Int) + 1) = (j : Int) + 1 := by rw [w64_id] <;> omega
        have hjf : j < f.length := by omega
        by_cases he : nth f i = nth f j
        ·have hn : ¬ PermL m f := fun hp => hp.inj j i hj (by omega) he.symm
         rw [decide_eq_false hn] at hbb
         subst hbb
         simp [g0, g1, g6, g13, g14, g15, g29, g30, g31, hj, rd_def, hr j hjf, he, endK_ret, back, hsc]
        ·simp [g0, g1, g6, g13, g14, g15, g29, g30, g31, hj, rd_def, hr j hjf, he, hwj]
         refine ⟨kk' - 1, by omega, j + 1, by omega, fun u hu => ?_, by omega⟩
         by_cases e : u = j
         ·rw [e]; exact Ne.symm he
         ·exact hd2 u (by omega)
       ·have hji : j = i := by omega
        simp [g0, g1, g6, g13, g14, g15, g29, g30, g31, hji, hwi]
        refine ⟨kk - 1, by omega, i + 1, by omega, fun j hj => ?_, fun u w huw hw => ?_, by omega⟩
        ·by_cases e : j = i
         ·rw [e]; exact ⟨by omega, by omega⟩
         ·exact hd j (by omega)
        ·by_cases e : w = i
         ·rw [e]; exact hd2 u (by omega)
         ·exact hinj u w huw (by omega)
      ·exact ⟨0, by omega, rfl, fun u hu => by omega, by simp [g0, g1, g13, g14, g15]⟩
   ·have him : i = m := by omega
    have hP : PermL m f := ⟨hl, fun j hj => hd j (by omega), fun u w huw hw => hinj u w huw (by omega)⟩
    rw [decide_eq_true hP] at hbb
    subst hbb
    simp [g0, g1, g13, g14, g15, him, endK_ret, back, hsc]
  ·exact ⟨0, by omega, rfl, fun j hj => by omega, fun u w _ hw => by omega, by simp [hl]⟩
 ·have hl' : ¬ (f.length : Int) = m := by omega
  have hn : ¬ PermL m f := fun hp => hl hp.len
  rw [decide_eq_false hn] at hbb
  subst hbb
  simp [hl, hl', endK_ret, back, hsc]
end Go.Proofs.Ytjlkndkedknocaa
namespace Go.Ai
def szL (xs : List Int) : Nat := (xs.map Int.toNat).sum
theorem szL_set : ∀ {xs : List Int} {i : Nat} (v : Int), i < xs.length → szL (xs.set i v) + (nth xs i).toNat = szL xs + v.toNat := by
 intro xs
 induction xs with
 | nil => intro i v h; simp at h
 | cons y ys ih =>
  intro i v h
  cases i with
  | zero => simp [szL, nth]; omega
  | succ i =>
   have := ih (i := i) v (by simpa using h)
   simp only [szL, List.set_cons_succ, List.map_cons, List.sum_cons] at this ⊢
   have e : nth (y :: ys) (i + 1) = nth ys i := by simp [nth]
   rw [e]
   omega
structure FixR (r : Nat → Nat) (N : Nat) (xs : List Int) : Prop where
 len : xs.length = N
 val : ∀ i, i < N → ∃ u : Nat, nth xs i = u ∧ u ≤ i ∧ r u = r i
theorem FixR.set {r : Nat → Nat} {N : Nat} {xs : List Int} (h : FixR r N xs) {i u : Nat} (hi : i < N) (hu : u ≤ i) (hr : r u = r i) : FixR r N (xs.set i u) := by
 refine ⟨by rw [List.length_set]; exact h.len, fun j hj => ?_⟩
 rw [nth_set (by rw [h.len]; exact hi)]
 by_cases e : j = i
 ·rw [if_pos e, e]; exact ⟨u, rfl, hu, hr⟩
 ·rw [if_neg e]; exact h.val j hj
theorem FixR.done {X : Nat → Nat → Nat} {n N : Nat} {xs : List Int} (h : FixR (archR X n) N xs) (hX : ∀ c, c < n → nth xs (X c 1) = nth xs (X c 3)) {i : Nat} (hi : i < N) : nth xs i = archR X n i := by
 have hr := archR_rep X n
 have e := archR_const (f := fun j => nth xs j) n hX i
 have hle := hr.le i
 obtain ⟨u, h1, h2, h3⟩ := h.val (archR X n i) (by omega)
 have h4 := hr.le u
 rw [h3, hr.idem] at h4
 rw [← e, h1]
 omega
end Go.Ai
namespace Go.Proofs.Ytjlkndkedknocaa
open Go Go.Ai
attribute [local instance] Classical.propDecidable
variable {E : Env} (hE : OE E)
include hE
theorem archesR_ {h0 : List O} {a : Option Addr} {n c : Nat} {x : Nat → Nat → Int} {s : Nat → Int} {L : Int} (hx : CrossP h0 a n x s) (hS : Snd n x s L) :
  DC E 59 [dV a n c L] ⟨h0, h0.length⟩ fun o st' => ∃ b, o = .ret (.tuple #[.slice (some ⟨b, 0, none⟩) (2 * n) (2 * n), .int .i64 (arC (dgOf n x s L) + L)]) ∧ Sub h0 st'.h ∧ h0.length ≤ st'.fl ∧ h0.length ≤ b ∧ st'.h[b]? = some (.cells (intsC (arL (dgOf n x s L))) 3 (some 0)) := by
 refine hE.fnC (body := rb59) rfl ?_
 unfold rb59
 obtain ⟨G, hGe⟩ : ∃ G, G = dgOf n x s L := ⟨_, rfl⟩
 have hG : GoodG G := by rw [hGe]; exact good_of hS
 have hGn : G.n = n := by rw [hGe]; rfl
 have hGL : G.L = L := by rw [hGe]; rfl
 have hsz := hG.size
 have hXx : ∀ i q, i < n → q < 4 → x i q = (G.X i q : Int) := fun i q hi hq => by rw [hGe]; exact sound_x hS hi hq
 have hXlt : ∀ i q, i < n → q < 4 → G.X i q < 2 * n := fun i q hi hq => by rw [← hGn]; exact hG.X i q (by rw [hGn]; exact hi) hq
 rw [← hGe]
 obtain ⟨N, hN⟩ : ∃ N, N = 2 * n := ⟨_, rfl⟩
 have hw2 : IntKind.i64.wrap (2 * (n : Int)) = (N : Int) := by rw [w64_id] <;> omega
 have e1 : (N : Int) * 8 ≤ 140737488355328 := by omega
 have e2 : (N : Int) < 4611686018427387904 := by omega
 have hrep : rep N [Value.int .i64 0] = intsC (List.replicate N 0) := by simp [rep, intsC]
 obtain ⟨F, hF⟩ : ∃ F, F = h0.length + 1 := ⟨_, rfl⟩
 obtain ⟨h1, hh1⟩ : ∃ H, H = h0 ++ [O.cells [.slice a n c, .int .i64 L] 24 (some 0)] := ⟨_, rfl⟩
 have l1 : h1.length = h0.length + 1 := by rw [hh1]; simp
 have b0 : h1[h0.length]? = some (O.cells [.slice a n c, .int .i64 L] 24 (some 0)) := by rw [hh1, app_at0]; rfl
 have s1 : Sub h0 h1 := by rw [hh1]; exact (Sub.refl _).app _
 simp only [dV]
 simp [← hh1, rd_def, b0, hw2, e1, e2, hrep, ← hN]
 rw [← l1] at hF
 rw [← hF]
 have hr := arR_rep G
 refine DW_loop (fun kk fr st => ∃ (i : Nat) (xs : List Int), i + kk = N ∧ st = ⟨h1 ++ [.cells (intsC xs) 3 (some 0)], h0.length⟩ ∧ xs.length = N ∧ (∀ j, j < N → nth xs j = if j < i then (j : Int) else 0) ∧
  get fr 1 = .pointer (some ⟨h0.length, 0, none⟩) ∧ get fr 4 = .slice (some ⟨F, 0, none⟩) N N ∧ get fr 22 = .int .i64 N ∧ get fr 23 = .int .i64 i) ?_ (k := N) ?_
 ·rintro kk fr st ⟨i, xs, hik, rfl, hxl, hxs, g1, g4, g22, g23⟩
  by_cases hi : i < N
  ·have hw : IntKind.i64.wrap ((i : Int) + 1) = (i : Int) + 1 := by rw [w64_id] <;> omega
   have hmn : min h0.length F = h0.length := by omega
   have hbF : (h1 ++ [.cells (intsC xs) 3 (some 0)])[F]? = some (O.cells (intsC xs) 3 (some 0)) := by rw [hF, app_at0]; rfl
   have hset : (h1 ++ [O.cells (intsC xs) 3 (some 0)]).set F (O.cells (intsC (xs.set i (i : Int))) 3 (some 0)) = h1 ++ [O.cells (intsC (xs.set i (i : Int))) 3 (some 0)] := by rw [hF, set_at0]; rfl
   have hi1 : i + 1 ≤ N := by omega
   simp [g1, g4, g22, g23, hi, hi1, hw, wrN_def, ↓hbF, hxl, intsC_set, hmn, ↓hset]
   refine ⟨kk - 1, by omega, i + 1, by omega, xs.set i i, rfl, by simp [hxl], fun j hj => ?_, by omega⟩
   rw [nth_set (by rw [hxl]; exact hi), hxs j hj]
   by_cases e : j = i
   ·rw [if_pos e, if_pos (by omega), e]
   ·rw [if_neg e]
    by_cases e2 : j < i
    ·rw [if_pos e2, if_pos (by omega)]
    ·rw [if_neg e2, if_neg (by omega)]
  ·have hiN : i = N := by omega
   obtain ⟨h2, hh2⟩ : ∃ H, H = h1 ++ [O.cells (intsC xs) 3 (some 0)] := ⟨_, rfl⟩
   have l2 : h2.length = h1.length + 1 := by rw [hh2]; simp
   have s2 : Sub h1 h2 := by rw [hh2]; exact (Sub.refl _).app _
   have cF : h2[F]? = some (O.cells (intsC xs) 3 (some 0)) := by rw [hh2, hF, app_at0]; rfl
   have hfix : FixR (arR G) N xs := ⟨hxl, fun j hj => ⟨j, by rw [hxs j hj, if_pos (by omega)], Nat.le_refl _, rfl⟩⟩
   simp [g1, g4, g22, g23, hiN]
   rw [← hh2]
   refine DW_loop (fun kk fr st => ∃ (h : List O) (ys : List Int) (more : Bool), st = ⟨h, h0.length⟩ ∧ Sub h1 h ∧ AtB h F (.cells (intsC ys) 3 (some 0)) ∧ FixR (arR G) N ys ∧ get fr 1 = .pointer (some ⟨h0.length, 0, none⟩) ∧ get fr 4 = .slice (some ⟨F, 0, none⟩) N N ∧ get fr 6 = .bool more ∧
    ((more = true ∧ kk = szL ys + 1) ∨ (more = false ∧ kk = 0 ∧ ∀ c, c < n → nth ys (G.X c 1) = nth ys (G.X c 3)))) ?_ (k := szL xs + 1) ?_
   ·clear g1 g4 g22 g23
    rintro kk fr st ⟨h, ys, more, rfl, hsub, aF, hfy, g1, g4, g6, hm⟩
    rcases hm with ⟨rfl, rfl⟩ | ⟨rfl, rfl, hdone⟩
    ·have c0 := hsub _ _ b0
     simp [g1, g4, g6, rd_def, ↓c0]
     refine DW_loop (fun kk' fr st => ∃ (j : Nat) (h' : List O) (zs : List Int) (ch : Bool), j + kk' = n ∧ st = ⟨h', h0.length⟩ ∧ Sub h1 h' ∧ AtB h' F (.cells (intsC zs) 3 (some 0)) ∧ FixR (arR G) N zs ∧ (ch = true → szL zs < szL ys) ∧ (ch = false → zs = ys ∧ ∀ c, c < j → nth zs (G.X c 1) = nth zs (G.X c 3)) ∧
      get fr 1 = .pointer (some ⟨h0.length, 0, none⟩) ∧ get fr 4 = .slice (some ⟨F, 0, none⟩) N N ∧ get fr 6 = .bool ch ∧ get fr 33 = .slice a n c ∧ get fr 34 = .int .i64 n ∧ get fr 35 = .int .i64 j) ?_ (k := n) ?_
     ·clear g1 g4 g6
      rintro kk' fr st ⟨j, h', zs, ch, hjk, rfl, hsub', aF', hfz, hc1, hc2, g1, g4, g6, g33, g34, g35⟩
      unfold AtB at aF'
      by_cases hj : j < n
      ·have hw : IntKind.i64.wrap ((j : Int) + 1) = (j : Int) + 1 := by rw [w64_id] <;> omega
       obtain ⟨xb, xo, hxa, hxr⟩ := hx
       obtain rfl := hxa (by omega)
       have hcr : rdN h' xb (xo + j * 5) 5 = some (crossC (x j) (s j)) := Sub.rdN (s1.trans hsub') (hxr j hj)
       rw [rdN_def] at hcr
       simp only [crossC] at hcr
       rw [hXx j 0 hj (by omega), hXx j 1 hj (by omega), hXx j 2 hj (by omega), hXx j 3 hj (by omega)] at hcr
       obtain ⟨p, hp⟩ : ∃ p, p = G.X j 1 := ⟨_, rfl⟩
       obtain ⟨q, hq⟩ : ∃ q, q = G.X j 3 := ⟨_, rfl⟩
       have hpN : p < N := by rw [hp, hN]; exact hXlt j 1 hj (by omega)
       have hqN : q < N := by rw [hq, hN]; exact hXlt j 3 hj (by omega)
       obtain ⟨u, u1, u2, u3⟩ := hfz.val p hpN
       obtain ⟨v, v1, v2, v3⟩ := hfz.val q hqN
       have hpq : arR G p = arR G q := by rw [hp, hq]; exact archR_eq G.X G.n j (by rw [hGn]; exact hj)
       have zl := hfz.len
       have gp : (intsC zs)[p]? = some (.int .i64 u) := by rw [← u1]; exact intsC_get (by omega)
       have gq : (intsC zs)[q]? = some (.int .i64 v) := by rw [← v1]; exact intsC_get (by omega)
       rw [← hp, ← hq] at hcr
       obtain ⟨h3, hh3⟩ : ∃ H, H = h' ++ [O.cells [.int .i64 (G.X j 0), .int .i64 p, .int .i64 (G.X j 2), .int .i64 q, .int .i64 (s j)] 107 (some 0)] := ⟨_, rfl⟩
       have lF := (List.getElem?_eq_some_iff.1 aF').1
       have d8 : h3[h'.length]? = some (O.cells [.int .i64 (G.X j 0), .int .i64 p, .int .i64 (G.X j 2), .int .i64 q, .int .i64 (s j)] 107 (some 0)) := by rw [hh3, app_at0]; rfl
       have dF : h3[F]? = some (O.cells (intsC zs) 3 (some 0)) := by rw [hh3]; exact app_of aF' _
       have hmn8 : min h0.length h'.length = h0.length := by have := (s1.trans hsub').len; omega
       have hmnF : min h0.length F = h0.length := by omega
       by_cases hpv : u = v
       ·subst hpv
        have hmm : maxminV false [Value.int .i64 u, .int .i64 u] = some (.int .i64 u) := by simp [maxminV, maxmin2]
        simp [g1, g4, g6, g33, g34, g35, hj, rd_def, rdN_def, hcr, wrN_at0, set_at0, hmn8, ↓← hh3, ↓d8, ↓dF, hpN, hqN, gp, gq, hmm, hw]
        refine ⟨kk' - 1, by omega, j + 1, by omega, by rw [hh3]; exact hsub'.app _, zs, dF, hfz, ?_⟩
        have heq : nth zs p = nth zs q := by rw [u1, v1]
        cases ch with
        | false =>
         obtain ⟨z1, z2⟩ := hc2 rfl
         refine .inl ⟨⟨z1, fun c hc => ?_⟩, rfl, by omega⟩
         by_cases e : c = j
         ·rw [e, ← hp, ← hq]; exact heq
         ·exact z2 c (by omega)
        | true => exact .inr ⟨hc1 rfl, rfl, by omega⟩
       ·obtain ⟨m, hm⟩ : ∃ m, m = min u v := ⟨_, rfl⟩
        have hmm : maxminV false [Value.int .i64 u, .int .i64 v] = some (.int .i64 m) := by
         simp only [maxminV, maxmin2]
         simp
         split <;> omega
        have hmc : m = u ∨ m = v := by omega
        have hmr1 : arR G m = arR G p := by
         rcases hmc with e | e
         ·rw [e]; exact u3
         ·rw [e, v3, hpq]
        have hmr2 : arR G m = arR G q := by rw [hmr1, hpq]
        have f1 := hfz.set (u := m) hpN (by omega) hmr1
        have f2 := f1.set (u := m) hqN (by omega) hmr2
        have hsz1 := szL_set (xs := zs) (i := p) (m : Int) (by omega)
        have hsz2 := szL_set (xs := zs.set p m) (i := q) (m : Int) (by rw [List.length_set]; omega)
        rw [nth_set (by omega)] at hsz2
        have hqp : q ≠ p := fun e => hpv (by rw [e] at v1; omega)
        rw [if_neg hqp, v1] at hsz2
        rw [u1] at hsz1
        have hlt : szL ((zs.set p m).set q m) < szL zs := by omega
        have hp1 : p + 1 ≤ N := by omega
        have hq1 : q + 1 ≤ N := by omega
        obtain ⟨h4, hh4⟩ : ∃ H, H = h3.set F (O.cells (intsC (zs.set p m)) 3 (some 0)) := ⟨_, rfl⟩
        have eF : h4[F]? = some (O.cells (intsC (zs.set p m)) 3 (some 0)) := by rw [hh4]; exact set_self dF
        obtain ⟨h5, hh5⟩ : ∃ H, H = h4.set F (O.cells (intsC ((zs.set p m).set q m)) 3 (some 0)) := ⟨_, rfl⟩
        have gF : h5[F]? = some (O.cells (intsC ((zs.set p m).set q m)) 3 (some 0)) := by rw [hh5]; exact set_self eF
        have hs5 : Sub h1 h5 := fun b o hb => by
         have := (List.getElem?_eq_some_iff.1 hb).1
         rw [hh5, hh4, hh3]
         exact set_ne (set_ne (app_of (hsub' _ _ hb) _) (by omega)) (by omega)
        have zl1 : (zs.set p (m : Int)).length = N := by rw [List.length_set]; omega
        have hne : ¬ (u = m ∧ v = m) := by omega
        have fin : ∃ x, AtB h5 F (O.cells (intsC x) 3 (some 0)) ∧ FixR (arR G) N x ∧ szL x < szL ys := by
         refine ⟨_, gF, f2, ?_⟩
         cases ch with
         | false => obtain ⟨z1, _⟩ := hc2 rfl; rw [← z1]; exact hlt
         | true => have := hc1 rfl; omega
        have hmi : min (u : Int) (v : Int) = (m : Int) := by omega
        by_cases hum : u = m
        ·have hvm : ¬ (v : Int) = m := by omega
         subst hum
         have hvm' : ¬ v = u := by omega
         simp [g1, g4, g6, g33, g34, g35, hj, rd_def, rdN_def, hcr, wrN_at0, set_at0, hmn8, ↓← hh3, ↓d8, ↓dF, hpN, hqN, gp, gq, hmm, hw, u1, v1, hmi, hvm, hvm', wrN_def, hp1, hq1, zl, intsC_set, hmnF, ↓← hh4, ↓eF, zl1, ↓← hh5]
         obtain ⟨xx, y1, y2, y3⟩ := fin
         exact ⟨kk' - 1, by omega, j + 1, by omega, hs5, xx, y1, y2, y3, by omega⟩
        ·simp [g1, g4, g6, g33, g34, g35, hj, rd_def, rdN_def, hcr, wrN_at0, set_at0, hmn8, ↓← hh3, ↓d8, ↓dF, hpN, hqN, gp, gq, hmm, hw, u1, v1, hmi, hum, wrN_def, hp1, hq1, zl, intsC_set, hmnF, ↓← hh4, ↓eF, zl1, ↓← hh5]
         obtain ⟨xx, y1, y2, y3⟩ := fin
         exact ⟨kk' - 1, by omega, j + 1, by omega, hs5, xx, y1, y2, y3, by omega⟩
      ·have hjn : j = n := by omega
       simp [g1, g4, g6, g33, g34, g35, hjn]
       cases ch with
       | false =>
        obtain ⟨z1, z2⟩ := hc2 rfl
        refine ⟨0, by omega, hsub', zs, aF', hfz, .inl ⟨rfl, rfl, fun c hc => z2 c (by omega)⟩⟩
       | true =>
        have := hc1 rfl
        refine ⟨szL zs + 1, by omega, hsub', zs, aF', hfz, .inr ⟨rfl, rfl⟩⟩
     ·exact ⟨0, h, ys, false, by omega, rfl, hsub, aF, hfy, (fun e => by cases e), (fun _ => ⟨rfl, fun c hc => by omega⟩), by simp [g1, g4]⟩
    ·have hval : ∀ j, j < N → nth ys j = arR G j := fun j hj => hfy.done (X := G.X) (n := G.n) (fun c hc => hdone c (by rw [← hGn]; exact hc)) hj
     have c0 := hsub _ _ b0
     have yl := hfy.len
     unfold AtB at aF
     have lF := (List.getElem?_eq_some_iff.1 aF).1
     have l01 := s1.len
     have lh := hsub.len
     obtain ⟨B, hB⟩ : ∃ B, B = h.length := ⟨_, rfl⟩
     simp [g1, g4, g6, e1, e2, hrep]
     rw [← hB]
     refine DW_loop (fun kk fr st => ∃ (i : Nat) (zs : List Int), i + kk = N ∧ st = ⟨h ++ [.cells (intsC zs) 3 (some 0)], h0.length⟩ ∧ zs.length = N ∧ (∀ j, j < i → nth zs j = arN G j) ∧
      get fr 1 = .pointer (some ⟨h0.length, 0, none⟩) ∧ get fr 12 = .slice (some ⟨B, 0, none⟩) N N ∧ get fr 13 = .int .i64 (cntR (arR G) i) ∧ get fr 80 = .slice (some ⟨F, 0, none⟩) N N ∧ get fr 81 = .int .i64 N ∧ get fr 82 = .int .i64 i) ?_ (k := N) ?_
     ·clear g1 g4 g6
      rintro kk fr st ⟨i, zs, hik, rfl, hzl, hzs, g1, g12, g13, g80, g81, g82⟩
      have bB : (h ++ [O.cells (intsC zs) 3 (some 0)])[B]? = some (O.cells (intsC zs) 3 (some 0)) := by rw [hB, app_at0]; rfl
      have bF : (h ++ [O.cells (intsC zs) 3 (some 0)])[F]? = some (O.cells (intsC ys) 3 (some 0)) := app_of aF _
      have b00 : (h ++ [O.cells (intsC zs) 3 (some 0)])[h0.length]? = some (O.cells [.slice a n c, .int .i64 L] 24 (some 0)) := app_of c0 _
      have hmB : min h0.length B = h0.length := by omega
      by_cases hi : i < N
      ·have hw : IntKind.i64.wrap ((i : Int) + 1) = (i : Int) + 1 := by rw [w64_id] <;> omega
       have hi1 : i + 1 ≤ N := by omega
       have gy : (intsC ys)[i]? = some (.int .i64 (arR G i)) := by rw [← hval i hi]; exact intsC_get (by omega)
       have hset : ∀ v : Int, (h ++ [O.cells (intsC zs) 3 (some 0)]).set B (O.cells (intsC (zs.set i v)) 3 (some 0)) = h ++ [O.cells (intsC (zs.set i v)) 3 (some 0)] := fun v => by rw [hB, set_at0]; rfl
       have hci : cntR (arR G) i ≤ i := cntP_le _ _
       have hci2 := cntR_succ (arR G) i
       have hle := hr.le i
       by_cases he : arR G i = i
       ·rw [if_pos he] at hci2
        have hwc : IntKind.i64.wrap ((cntR (arR G) i : Int) + 1) = (cntR (arR G) i : Int) + 1 := by rw [w64_id] <;> omega
        have he' : (arR G i : Int) = i := by omega
        have hNi : arN G i = cntR (arR G) i := by unfold arN; rw [he]
        simp [g1, g12, g13, g80, g81, g82, hi, hi1, hw, rd_def, ↓bF, ↓bB, gy, he, wrN_def, hzl, intsC_set, hmB, ↓hset, hwc]
        refine ⟨kk - 1, by omega, i + 1, by omega, _, rfl, by simp [hzl], fun j hj => ?_, by omega, by omega⟩
        rw [nth_set (by omega)]
        by_cases e : j = i
        ·rw [if_pos e, e, hNi]
        ·rw [if_neg e]; exact hzs j (by omega)
       ·rw [if_neg he] at hci2
        have he' : ¬ (arR G i : Int) = i := by omega
        have hrN : arR G i < N := by omega
        have gz : (intsC zs)[arR G i]? = some (.int .i64 (arN G (arR G i))) := by rw [← hzs _ (by omega)]; exact intsC_get (by omega)
        have hNi : arN G (arR G i) = arN G i := by unfold arN; rw [hr.idem]
        rw [hNi] at gz
        simp [g1, g12, g13, g80, g81, g82, hi, hi1, hw, rd_def, ↓bF, ↓bB, gy, gz, he, hrN, wrN_def, hzl, intsC_set, hmB, ↓hset]
        refine ⟨kk - 1, by omega, i + 1, by omega, _, rfl, by simp [hzl], fun j hj => ?_, by omega, by omega⟩
        rw [nth_set (by omega)]
        by_cases e : j = i
        ·rw [if_pos e, e, hzs _ (by omega), hNi]
        ·rw [if_neg e]; exact hzs j (by omega)
      ·have hiN2 : i = N := by omega
       have hwC : IntKind.i64.wrap ((cntR (arR G) N : Int) + L) = (arC G : Int) + L := by
        have h1 := arC_le G
        have h2 := hG.loops
        rw [hGL] at h2
        have h3 : cntR (arR G) N = arC G := by unfold arC; rw [hGn, ← hN]
        rw [h3, w64_id] <;> omega
       rw [hiN2] at g13 hzs
       have hzL : zs = arL G := eq_tabL (by rw [hzl, hGn, hN]) (fun j hj => hzs j (by rw [hN, ← hGn]; exact hj))
       simp [g1, g12, g13, g80, g81, g82, hiN2, rd_def, ↓b00, hwC]
       unfold pairQ back
       rw [if_neg (by simp [Out.scalar, scalar, flat1, flat])]
       exact ⟨B, rfl, (s1.trans hsub).app _, Nat.le_refl _, by omega, by rw [← hzL]; exact bB⟩
     ·exact ⟨0, List.replicate N 0, by omega, rfl, by simp, fun j hj => by omega, by simp [g1, g4, cntR, cntP]⟩
   ·exact ⟨h2, xs, true, rfl, s2, cF, hfix, by simp [g1], by simp [g4], by simp, .inl ⟨rfl, rfl⟩⟩
 ·exact ⟨0, List.replicate N 0, by omega, rfl, by simp, fun j hj => by rw [if_neg (by omega)]; simp [nth, hj], by simp⟩
end Go.Proofs.Ytjlkndkedknocaa
namespace Go.Proofs.Ytjlkndkedknocaa
open Go Go.Ai
attribute [local instance] Classical.propDecidable
variable {E : Env} (hE : OE E)
include hE
theorem presR_ {h0 : List O} {a : Option Addr} {n c : Nat} {x : Nat → Nat → Int} {s : Nat → Int} {L : Int} (hx : CrossP h0 a n x s) (hS : Snd n x s L) :
  DC E 78 [dV a n c L] ⟨h0, h0.length⟩ fun o st' => ∃ v, o = .ret (.agg #[.int .i64 (arC (dgOf n x s L) + L), v]) ∧ Sub h0 st'.h ∧ h0.length ≤ st'.fl ∧ MatN st'.h h0.length v (relL (dgOf n x s L)) := by
 refine hE.fnC (body := rb78) rfl ?_
 unfold rb78
 obtain ⟨h1, hh1⟩ : ∃ H, H = h0 ++ [O.cells [.slice a n c, .int .i64 L] 24 (some 0), O.cells [.int .i64 0, .slice none 0 0] 81 (some 0)] := ⟨_, rfl⟩
 have l1 : h1.length = h0.length + 2 := by rw [hh1]; simp
 have s1 : Sub h0 h1 := by rw [hh1]; exact (Sub.refl _).app _
 have b0 : h1[h0.length]? = some (O.cells [.slice a n c, .int .i64 L] 24 (some 0)) := by rw [hh1, app_at0]; rfl
 have b1 : h1[h0.length + 1]? = some (O.cells [.int .i64 0, .slice none 0 0] 81 (some 0)) := by rw [hh1, app_at]; rfl
 have har := archesR_ hE (c := c) (hx.sub s1) hS
 obtain ⟨G, hGe⟩ : ∃ G, G = dgOf n x s L := ⟨_, rfl⟩
 have hG : GoodG G := by rw [hGe]; exact good_of hS
 have hGn : G.n = n := by rw [hGe]; rfl
 have hGs : G.s = s := by rw [hGe]; rfl
 have hsz := hG.size
 have hXx : ∀ i q, i < n → q < 4 → x i q = (G.X i q : Int) := fun i q hi hq => by rw [hGe]; exact sound_x hS hi hq
 have hXlt : ∀ i q, i < n → q < 4 → G.X i q < 2 * n := fun i q hi hq => by rw [← hGn]; exact hG.X i q (by rw [hGn]; exact hi) hq
 rw [← hGe] at har ⊢
 simp only [dV] at har ⊢
 simp [List.append_assoc, ← hh1, rdN_def, b0]
 refine har.imp ?_
 rintro o ⟨h2, f2⟩ ⟨b, rfl, s2, hf2, hb, hof⟩
 simp only at s2 hf2 hof
 have l2 := s2.len
 have bD := s2 _ _ b0
 have bZ := s2 _ _ b1
 obtain ⟨P, hP⟩ : ∃ P, P = h2.length := ⟨_, rfl⟩
 have hmP : min h0.length P = h0.length := by omega
 simp [joined_fl, hf2, wrN_at0, set_at0, app_of bD, rd_def]
 rw [← hP, hmP]
 have hbl := (List.getElem?_eq_some_iff.1 hof).1
 refine DW_loop (fun kk fr st => ∃ (i : Nat) (h : List O) (uv : Value) (vs : List Value), i + kk = n ∧ st = ⟨h, h0.length⟩ ∧ Sub h2 h ∧ AtB h P (.cells [.int .i64 (arC G + L), uv] 81 (some 0)) ∧
  OwnS h (P + 1) uv i vs 34 1 ∧ RelsI h (P + 1) G i vs ∧
  get fr 1 = .pointer (some ⟨h0.length, 0, none⟩) ∧ get fr 2 = .pointer (some ⟨h0.length + 1, 0, none⟩) ∧ get fr 3 = .slice (some ⟨b, 0, none⟩) (2 * n) (2 * n) ∧ get fr 5 = .pointer (some ⟨P, 0, none⟩) ∧ get fr 19 = .slice a n c ∧ get fr 20 = .int .i64 n ∧ get fr 21 = .int .i64 i) ?_ (k := n) ?_
 ·rintro kk fr st ⟨i, h, uv, vs, hik, rfl, hsub, a3, hu, hR, g1, g2, g3, g5, g19, g20, g21⟩
  have b3 := a3
  unfold AtB at b3
  have hl3 := (List.getElem?_eq_some_iff.1 b3).1
  by_cases hi : i < n
  ·have hw : IntKind.i64.wrap ((i : Int) + 1) = (i : Int) + 1 := by rw [w64_id] <;> omega
   obtain ⟨xb, xo, hxa, hxr⟩ := hx
   obtain rfl := hxa (by omega)
   have hcr : rdN h xb (xo + i * 5) 5 = some (crossC (x i) (s i)) := Sub.rdN ((s1.trans s2).trans hsub) (hxr i hi)
   rw [rdN_def] at hcr
   simp only [crossC] at hcr
   rw [hXx i 0 hi (by omega), hXx i 1 hi (by omega), hXx i 2 hi (by omega), hXx i 3 hi (by omega)] at hcr
   obtain ⟨H, hH⟩ : ∃ H, H = h ++ [O.cells [.int .i64 (G.X i 0), .int .i64 (G.X i 1), .int .i64 (G.X i 2), .int .i64 (G.X i 3), .int .i64 (s i)] 107 (some 0)] := ⟨_, rfl⟩
   have hpc : H[h.length]? = some (O.cells [.int .i64 (G.X i 0), .int .i64 (G.X i 1), .int .i64 (G.X i 2), .int .i64 (G.X i 3), .int .i64 (s i)] 107 (some 0)) := by rw [hH, app_at0]; rfl
   have hlH : H.length = h.length + 1 := by rw [hH]; simp
   have hofH : H[b]? = some (O.cells (intsC (arL G)) 3 (some 0)) := by rw [hH]; exact app_of (hsub _ _ hof) _
   have x0 := hXlt i 0 hi (by omega)
   have x1 := hXlt i 1 hi (by omega)
   have x2 := hXlt i 2 hi (by omega)
   have y0 : (G.X i 0 : Int) < 2 * (n : Int) := by omega
   have y1 : (G.X i 1 : Int) < 2 * (n : Int) := by omega
   have y2 : (G.X i 2 : Int) < 2 * (n : Int) := by omega
   have hal : (arL G).length = 2 * n := by unfold arL; rw [tabL_length, hGn]
   have hgo : ∀ q, q < 4 → (intsC (arL G))[G.X i q]? = some (.int .i64 (arN G (G.X i q))) := fun q hq => by
    have hq' := hXlt i q hi hq
    rw [intsC_get (by omega)]
    unfold arL
    rw [tabL_nth (by rw [hGn]; exact hq')]
   have o0 := hgo 0 (by omega)
   have o1 := hgo 1 (by omega)
   have o2 := hgo 2 (by omega)
   have hgv : ∀ q, q < 4 → 1 ≤ gen G (G.X i q) ∧ gen G (G.X i q) ≤ 1000 := fun q hq => by
    have h1 := gen_le hG (by rw [hGn]; exact hi) hq
    have h2 := arC_le G
    rw [hGn] at h2
    omega
   have hgq : ∀ q, q < 4 → (arN G (G.X i q) : Int) + 1 = gen G (G.X i q) := fun q hq => rfl
   have v0 := hgv 0 (by omega)
   have v1 := hgv 1 (by omega)
   have v2 := hgv 2 (by omega)
   have z0 : IntKind.i64.wrap ((arN G (G.X i 0) : Int) + 1) = gen G (G.X i 0) := by rw [hgq 0 (by omega), w64_id] <;> omega
   have z1 : IntKind.i64.wrap ((arN G (G.X i 1) : Int) + 1) = gen G (G.X i 1) := by rw [hgq 1 (by omega), w64_id] <;> omega
   have z2 : IntKind.i64.wrap ((arN G (G.X i 2) : Int) + 1) = gen G (G.X i 2) := by rw [hgq 2 (by omega), w64_id] <;> omega
   have hrel : relOf G i = [-(gen G (G.X i 1)) * s i, gen G (G.X i 0), gen G (G.X i 1) * s i, -(gen G (G.X i 2))] := by unfold relOf; rw [hGs]
   have w1 : IntKind.i64.wrap (IntKind.i64.wrap (-s i) * gen G (G.X i 1)) = -(gen G (G.X i 1)) * s i := by
    rcases hS.sign i hi with e | e <;> rw [e] <;> rw [w64_id (x := -_) (by omega) (by omega)] <;> rw [w64_id] <;> omega
   have w2 : IntKind.i64.wrap (s i * gen G (G.X i 1)) = gen G (G.X i 1) * s i := by
    rcases hS.sign i hi with e | e <;> rw [e] <;> rw [w64_id] <;> omega
   have w3 : IntKind.i64.wrap (-gen G (G.X i 2)) = -(gen G (G.X i 2)) := by rw [w64_id] <;> omega
   obtain ⟨H2, hH2⟩ : ∃ H2, H2 = H ++ [O.cells (intsC (relOf G i)) 3 (some 0)] := ⟨_, rfl⟩
   have hH2' : H2 = H ++ [O.cells [.int .i64 (-(gen G (G.X i 1)) * s i), .int .i64 (gen G (G.X i 0)), .int .i64 (gen G (G.X i 1) * s i), .int .i64 (-(gen G (G.X i 2)))] 3 (some 0)] := by rw [hH2, hrel]; rfl
   have hl2 : H2.length = H.length + 1 := by rw [hH2]; simp
   have b3H : H[P]? = some (.cells [.int .i64 (arC G + L), uv] 81 (some 0)) := by rw [hH]; exact app_of b3 _
   have hmin2 : min h0.length h.length = h0.length := by omega
   have hE2 : Ext h H2 := by rw [hH2, hH]; exact (Ext.snoc _ _).trans (Ext.snoc _ _)
   have hu2 : OwnS (H2 ++ [.cells [.slice (some ⟨H.length, 0, none⟩) 4 4] 34 (some 0)]) (P + 1) uv i vs 34 1 := hu.ext (hE2.trans (Ext.snoc _ _))
   have hread : readSlice (H2 ++ [.cells [.slice (some ⟨H.length, 0, none⟩) 4 4] 34 (some 0)]) 1 1 (some ⟨H2.length, 0, none⟩) = some [.slice (some ⟨H.length, 0, none⟩) 4 4] := by simp [readSlice, rdN_at0]
   obtain ⟨b', H4, f4, happ, hb', hown, hf1, hf2', hL4, K4⟩ := append_S (fl := h0.length) (c := 1) (bytes := 24) hu2 hread (by simp) (by simp) (by simp [hl2]; omega) (by simp only [roomMax]; omega) (by omega)
   obtain rfl : f4 = h0.length := by omega
   have hne : ∀ (b : Nat), b < P + 1 → ∀ n' c', uv ≠ .slice (some ⟨b, 0, none⟩) n' c' := fun b hb n' c' e => by
    rcases hu.2 with ⟨h1, _⟩ | ⟨b2, s2, h1, h2, _⟩
    ·rw [e] at h1; cases h1
    ·rw [e] at h1
     simp only [Value.slice.injEq, Option.some.injEq, Addr.mk.injEq] at h1
     omega
   have hnei : ∀ (b : Nat) (cs : List Value) (ow : Option Nat), H2[b]? = some (.cells cs 3 ow) → ∀ n' c', uv ≠ .slice (some ⟨b, 0, none⟩) n' c' := fun b cs ow hb n' c' e => by
    rcases hu.2 with ⟨h1, _⟩ | ⟨b2, s2, h1, h2, h3, _⟩
    ·rw [e] at h1; cases h1
    ·rw [e] at h1
     simp only [Value.slice.injEq, Option.some.injEq, Addr.mk.injEq] at h1
     obtain ⟨l, hl⟩ := hE2
     rw [h1.1.1, hl, app_of h3] at hb
     cases hb
   have kB : ∀ (b : Nat) (o : O), h[b]? = some o → (∀ n' c', uv ≠ .slice (some ⟨b, 0, none⟩) n' c') → H4[b]? = some o := fun b o hb hn => by
    obtain ⟨l, hl⟩ := hE2
    exact K4 b o (by rw [hl, List.append_assoc]; exact app_of hb _) hn
   have k3' := kB _ _ b3 (hne _ (by omega))
   rw [hl2] at happ
   have happ2 := happ
   simp only [hH2', List.append_assoc, List.cons_append, List.nil_append] at happ2
   simp [g1, g2, g3, g5, g19, g20, g21, hi, rdN_def, hcr, wrN_at0, set_at0, app_at0, ← hH, ← hlH, hpc, hofH, x0, x1, x2, y0, y1, y2, o0, o1, o2, z0, z1, z2, bit, rd_def, w1, w2, w3, hmin2, b3H, happ2, wrN_def, k3', hmP, hw]
   refine ⟨kk - 1, by omega, i + 1, by omega, fun b o hb => ?_, .slice (some ⟨b', 0, none⟩) (i + 1) (i + 1), ?_, vs ++ [.slice (some ⟨H.length, 0, none⟩) 4 4], ?_, fun q hq => ?_, by omega⟩
   ·have hbl := (List.getElem?_eq_some_iff.1 hb).1
    exact set_ne (kB b o (hsub b o hb) (hne _ (by omega))) (by omega)
   ·exact set_self k3'
   ·exact hown.keep fun b s' e1 e2 => set_ne e2 (by
     simp at e1 hb'
     omega)
   ·by_cases e : q < i
    ·obtain ⟨b, r1, r2, r3⟩ := hR q e
     have hvl : vs.length = i := by have := hu.1; omega
     refine ⟨b, by rw [List.getElem?_append_left (by omega)]; exact r1, r2, set_ne (kB b _ r3 (hnei b (intsC (relOf G q)) (some 0) ?_)) (by omega)⟩
     obtain ⟨l, hl⟩ := hE2
     rw [hl]; exact app_of r3 _
    ·have hqi : q = i := by omega
     subst hqi
     have hvl : vs.length = q := by have := hu.1; omega
     have hin : H2[H.length]? = some (O.cells (intsC (relOf G q)) 3 (some 0)) := by rw [hH2, app_at0]; rfl
     refine ⟨H.length, by rw [List.getElem?_append_right (by omega), hvl]; simp, by omega, set_ne (K4 _ _ (app_of hin _) (hnei _ _ _ hin)) (by omega)⟩
  ·have hin : i = n := by omega
   subst hin
   have bZh := hsub _ _ bZ
   have bZs := fun o => set_self (x := o) bZh
   have hmZ : min h0.length (h0.length + 1) = h0.length := by omega
   have hone : one1 uv = true := by rcases hu.2 with ⟨h1, _⟩ | ⟨b, su, h1, _⟩ <;> rw [h1] <;> rfl
   simp [g1, g2, g3, g5, g19, g20, g21, rdN_def, b3, wrN_def, bZh, bZs, hone]
   unfold pairQ back
   have hvl : vs.length = i := by have := hu.1; omega
   have hM : ∀ h', (∀ (b : Nat) (o : O), P + 1 ≤ b → h[b]? = some o → h'[b]? = some o) → Mat h' uv (relL G) := fun h' hk => by
    have hi200 : (relL G).length = i := by rw [relL_length, hGn]
    rcases hu.2 with ⟨h1, h2⟩ | ⟨b, su, h1, h2, h3, _⟩
    ·have : relL G = [] := List.length_eq_zero_iff.1 (by omega)
     rw [h1, this]
     exact ⟨none, 0, 0, 0, fun _ => undef, rfl, fun h => absurd h (by simp), fun i hi => absurd hi (by simp), by simp⟩
    ·refine ⟨some ⟨b, 0, none⟩, b, 0, i, fun q => (vs[q]?).getD undef, by rw [h1, hi200], fun _ => rfl, fun q hq => ?_, by omega⟩
     obtain ⟨b', r1, r2, r3⟩ := hR q (by omega)
     have h3' := hk _ _ (by omega) h3
     have r3' := hk _ _ r2 r3
     refine ⟨by rw [rd_def, h3']; simp [r1], ?_⟩
     rw [relL_nth (by omega)]
     simp only [r1, Option.getD_some]
     refine ⟨some ⟨b', 0, none⟩, b', 0, 4, rfl, fun _ => rfl, fun j hj => ?_, fun j => ?_, ?_⟩
     ·rw [rd_def, r3']
      simp only [rdO_cells, Nat.zero_add]
      exact intsC_get hj
     ·have := relOf_small hG (i := q) (by omega) j
      constructor <;> omega
     ·simp [relOf]
   have hM0 := hM h fun _ _ _ hb => hb
   have hs0h : Sub h0 h := (s1.trans s2).trans hsub
   split
   ·rename_i hc
    refine ⟨_, rfl, Sub.refl _, Nat.le_refl _, fun h' _ => Mat.flat hM0 ?_⟩
    simp [Out.scalar, scalar, flat1] at hc
    exact hc.2
   ·exact ⟨_, rfl, (hs0h.set (by omega) _), Nat.le_refl _, fun h' hk => hM h' fun b o hb ho => hk b o (by omega) (set_ne ho (by omega))⟩
 ·refine ⟨0, _, .slice none 0 0, [], by omega, rfl, (Sub.refl h2).app _, ?_, OwnS.nil _ _ _ _, fun q hq => by omega, by simp⟩
  unfold AtB; rw [hP, app_at0]; rfl
end Go.Proofs.Ytjlkndkedknocaa
namespace Go.Proofs.Ytjlkndkedknocaa
open Go Go.Ai
attribute [local instance] Classical.propDecidable
def tgt (G : Dg) (a : Nat) (inn : Bool) : Nat × Nat := if inn then (G.T a 2, G.T a 3) else (G.T a 0, G.T a 1)
theorem tgt_in {G : Dg} (hG : GoodG G) {a : Nat} (ha : a < 2 * G.n) (inn : Bool) : (tgt G a inn).1 < G.n ∧ (tgt G a inn).2 < 4 := by
 obtain ⟨t0, t1, t2, t3, _⟩ := hG.T a ha
 cases inn
 ·exact ⟨t0, t1⟩
 ·exact ⟨t2, t3⟩
theorem tgt_hit {G : Dg} (hG : GoodG G) {a i q : Nat} (ha : a < 2 * G.n) (hi : i < G.n) (hq : q < 4) (inn : Bool) : (G.X i q = a ∧ (!outB (G.s i) q) = inn) ↔ (i, q) = tgt G a inn := by
 obtain ⟨t0, t1, t2, t3, x1, x2, hne⟩ := hG.T a ha
 obtain ⟨d1, d2⟩ := hG.dir a ha
 constructor
 ·rintro ⟨h1, h2⟩
  have hc := hG.cover i q hi hq
  rw [h1] at hc
  rcases hc with ⟨e1, e2⟩ | ⟨e1, e2⟩
  ·rw [← e1, ← e2] at d1
   rw [d1] at h2
   subst h2
   simp [tgt, e1.symm, e2.symm]
  ·rw [← e1, ← e2] at d2
   rw [d2] at h2
   subst h2
   simp [tgt, e1.symm, e2.symm]
 ·intro h
  cases inn
  ·simp only [tgt, Bool.false_eq_true, if_false, Prod.mk.injEq] at h
   rw [h.1, h.2]
   exact ⟨x1, by rw [d1]; rfl⟩
  ·simp only [tgt, if_true, Prod.mk.injEq] at h
   rw [h.1, h.2]
   exact ⟨x2, by rw [d2]; rfl⟩
theorem tgt_oth {G : Dg} (hG : GoodG G) {x : Nat × Nat} (hx : InV G x) : tgt G (G.X x.1 x.2) (outB (G.s x.1) x.2) = oth G x := by
 obtain ⟨h1, h2, h3⟩ := hx
 obtain ⟨t0, t1, t2, t3, x1, x2, hne⟩ := hG.T _ h3
 obtain ⟨d1, d2⟩ := hG.dir _ h3
 unfold oth
 rcases hG.cover _ _ h1 h2 with ⟨e1, e2⟩ | ⟨e1, e2⟩
 ·rw [if_pos ⟨e1.symm, e2.symm⟩]
  rw [← e1, ← e2] at d1
  simp [tgt, d1]
 ·rw [if_neg (fun h => hne ⟨by rw [h.1, ← e1], by rw [h.2, ← e2]⟩)]
  rw [← e1, ← e2] at d2
  simp [tgt, d2]
theorem CrossP.reads {h : List O} {b o n : Nat} {x : Nat → Nat → Int} {s : Nat → Int} (hr : ∀ i, i < n → rdN h b (o + i * 5) 5 = some (crossC (x i) (s i))) {i : Nat} (hi : i < n) : (∀ q, q < 4 → rd h b (o + i * 5 + q) = some (.int .i64 (x i q))) ∧ rd h b (o + i * 5 + 4) = some (.int .i64 (s i)) := by
 refine ⟨fun q hq => ?_, ?_⟩
 ·rw [rd_of_rdN (hr i hi) (show q < 5 by omega)]
  match q, hq with
  | 0, _ => rfl
  | 1, _ => rfl
  | 2, _ => rfl
  | 3, _ => rfl
 ·rw [rd_of_rdN (hr i hi) (show 4 < 5 by omega)]; rfl
variable {E : Env} (hE : OE E)
include hE
theorem In_ {h : List O} {x : Nat → Int} {s : Int} {q : Nat} (hs : s = 1 ∨ s = -1) (hq : q < 4) :
  DR E 192 [crossV x s, .int .i64 q] ⟨h, h.length⟩ (.ret (.bool (!outB s q))) ⟨h, h.length⟩ := by
 refine hE.fn (body := rb192) rfl ?_
 unfold rb192
 rcases hs with rfl | rfl
 all_goals
  match q, hq with
  | 0, _ => simp [crossV, rd_at0, outB]
  | 1, _ => simp [crossV, rd_at0, outB]
  | 2, _ => simp [crossV, rd_at0, outB]
  | 3, _ => simp [crossV, rd_at0, outB]
theorem end_ {h0 : List O} {a : Option Addr} {n c : Nat} {x : Nat → Nat → Int} {s : Nat → Int} {L : Int} (hx : CrossP h0 a n x s) (hS : Snd n x s L) {arc : Nat} (ha : arc < 2 * n) (inn : Bool) :
  DR E 213 [dV a n c L, .int .i64 arc, .bool inn] ⟨h0, h0.length⟩ (.ret (endV (tgt (dgOf n x s L) arc inn))) ⟨h0, h0.length⟩ := by
 refine hE.fn (body := rb213) rfl ?_
 unfold rb213
 have hG := good_of hS
 have hxe : ∀ i q, i < n → q < 4 → x i q = (dgOf n x s L).X i q := fun i q hi hq => sound_x hS hi hq
 obtain ⟨G, hGe⟩ : ∃ G, G = dgOf n x s L := ⟨_, rfl⟩
 have hGn : G.n = n := by rw [hGe]; rfl
 have hGs : G.s = s := by rw [hGe]; rfl
 rw [← hGe] at hG hxe ⊢
 have hsz := hG.size
 obtain ⟨xb, xo, hxa, hxr⟩ := hx
 obtain rfl := hxa (by omega)
 obtain ⟨t, ht⟩ : ∃ t, t = tgt G arc inn := ⟨_, rfl⟩
 obtain ⟨ht1, ht2⟩ := tgt_in hG (a := arc) (by omega) inn
 rw [← ht] at ht1 ht2 ⊢
 simp [dV, List.append_assoc]
 obtain ⟨hB, hhB⟩ : ∃ H, H = h0 ++ [O.cells [.slice (some ⟨xb, xo, none⟩) n c, .int .i64 L] 24 (some 0), O.cells [.int .i64 0, .int .i64 0] 72 (some 0)] := ⟨_, rfl⟩
 have hBs : Sub h0 hB := by rw [hhB]; exact (Sub.refl _).app _
 have hB0 : hB[h0.length]? = some (O.cells [.slice (some ⟨xb, xo, none⟩) n c, .int .i64 L] 24 (some 0)) := by rw [hhB, app_at0]; rfl
 have hB1 : hB[h0.length + 1]? = some (O.cells [.int .i64 0, .int .i64 0] 72 (some 0)) := by rw [hhB, app_at]; rfl
 rw [← hhB]
 refine DW_loop (fun kk fr st => ∃ (i : Nat), i + kk = n ∧ st = ⟨hB, h0.length⟩ ∧ 4 * i ≤ 4 * t.1 + t.2 ∧ get fr 1 = .int .i64 arc ∧ get fr 2 = .bool inn ∧ get fr 3 = .pointer (some ⟨h0.length, 0, none⟩) ∧ get fr 6 = .pointer (some ⟨h0.length + 1, 0, none⟩) ∧ get fr 7 = .int .i64 i) ?_ (k := n) ?_
 ·rintro kk fr st ⟨i, hik, rfl, hle, g1, g2, g3, g6, g7⟩
  have hi : i < n := by omega
  obtain ⟨rq, rs⟩ := CrossP.reads (fun i hi => hBs.rdN (hxr i hi)) hi
  have hcr := hBs.rdN (hxr i hi)
  rw [rdN_def] at hcr
  simp only [rd_def] at rq
  simp only [crossC] at hcr
  simp [g1, g2, g3, g6, g7, rd_def, hB0, hi]
  refine DW_loop (fun kk' fr st => ∃ (q : Nat), q + kk' = 4 ∧ st = ⟨hB, h0.length⟩ ∧ 4 * i + q ≤ 4 * t.1 + t.2 ∧ get fr 1 = .int .i64 arc ∧ get fr 2 = .bool inn ∧ get fr 3 = .pointer (some ⟨h0.length, 0, none⟩) ∧ get fr 6 = .pointer (some ⟨h0.length + 1, 0, none⟩) ∧ get fr 7 = .int .i64 i ∧ get fr 8 = .int .i64 q) ?_ (k := 4) ?_
  ·clear g1 g2 g3 g6 g7
   rintro kk' fr st ⟨q, hqk, rfl, hle, g1, g2, g3, g6, g7, g8⟩
   by_cases hq : q < 4
   ·have hq' : (q : Int) < 4 := by omega
    have hw : IntKind.i64.wrap ((q : Int) + 1) = (q : Int) + 1 := by rw [w64_id] <;> omega
    have hsg := hG.sign i (by omega)
    rw [hGs] at hsg
    have hin := fun h => In_ hE (h := h) (x := x i) (s := s i) hsg hq
    simp only [crossV] at hin
    have hit := tgt_hit hG (a := arc) (i := i) (q := q) (by omega) (by omega) hq inn
    rw [hGs, ← ht] at hit
    have hr := rq q hq
    rw [hxe i q hi hq] at hr
    have hmin : min h0.length (h0.length + 1) = h0.length := by omega
    have hself : ∀ o, (hB.set (h0.length + 1) o)[h0.length + 1]? = some o := fun o => set_self hB1
    have fin : (i, q) = t → True := fun _ => trivial
    by_cases he : G.X i q = arc
    ·by_cases hb : (!outB (s i) q) = inn
     ·have htt := hit.1 ⟨he, hb⟩
      have hb' : (outB (s i) q == !inn) = true := by rw [← hb]; simp
      simp [g1, g2, g3, g6, g7, g8, hq', rd_def, hB0, hi, hr, he, rdN_def, hcr, DC_q hin, hb, wrN_def, hB1, hmin, hself, back_scalar, Out.scalar, scalar, flat1, flat]
      rw [← htt]
      rfl
     ·have hne : (i, q) ≠ t := fun e => hb (hit.2 e).2
      have hb2 : ((!outB (s i) q) == inn) = false := by simpa using hb
      have hne2 : 4 * i + q ≠ 4 * t.1 + t.2 := fun e => hne (Prod.ext (by simp only; omega) (by simp only; omega))
      simp [g1, g2, g3, g6, g7, g8, hq', rd_def, hB0, hi, hr, he, rdN_def, hcr, DC_q hin, hb2, hw]
      exact ⟨kk' - 1, by omega, q + 1, by omega, by omega, by omega⟩
    ·have hne : (i, q) ≠ t := fun e => he (hit.2 e).1
     have hne2 : 4 * i + q ≠ 4 * t.1 + t.2 := fun e => hne (Prod.ext (by simp only; omega) (by simp only; omega))
     simp [g1, g2, g3, g6, g7, g8, hq', rd_def, hB0, hi, hr, he, hw]
     exact ⟨kk' - 1, by omega, q + 1, by omega, by omega, by omega⟩
   ·have hq4 : q = 4 := by omega
    subst hq4
    have hw : IntKind.i64.wrap ((i : Int) + 1) = (i : Int) + 1 := by rw [w64_id] <;> omega
    simp [g1, g2, g3, g6, g7, g8, hw]
    exact ⟨kk - 1, by omega, i + 1, by omega, by omega, by omega⟩
  ·exact ⟨0, by omega, rfl, by omega, by simp [g1, g2, g3, g6, g7]⟩
 ·exact ⟨0, by omega, rfl, by omega, by simp⟩
end Go.Proofs.Ytjlkndkedknocaa
namespace Go.Proofs.Ytjlkndkedknocaa
open Go Go.Ai
attribute [local instance] Classical.propDecidable
theorem DC_when {E : Env} {f : FuncId} {args : List Value} {o : Out} {P : List O → Prop} (hq : ∀ h, P h → DR E f args ⟨h, h.length⟩ o ⟨h, h.length⟩) {h : List O} {fl : Nat} (hp : P h) (e : fl = h.length) {Q : Out → St → Prop} : DC E f args ⟨h, fl⟩ Q ↔ Q o ⟨h, fl⟩ := by
 subst e; exact DC_of (hq h hp)
variable {E : Env} (hE : OE E)
include hE
theorem endIn {h0 : List O} {a : Option Addr} {n c : Nat} {x : Nat → Nat → Int} {s : Nat → Int} {L : Int} (hx : CrossP h0 a n x s) (hS : Snd n x s L) {arc : Nat} (ha : arc < 2 * n) :
  DR E 150 [dV a n c L, .int .i64 arc] ⟨h0, h0.length⟩ (.ret (endV (tgt (dgOf n x s L) arc true))) ⟨h0, h0.length⟩ := by
 refine hE.fn (body := rb150) rfl ?_
 unfold rb150
 have hc : ∀ l, CrossP (h0 ++ l) a n x s := fun l => hx.ext (Ext.snoc h0 l)
 have h1 := fun h k => end_ hE (h0 := h) (a := a) (x := x) (c := c) k hS ha true
 simp only [dV, endV] at h1
 simp [dV, rdN_at0, List.append_assoc, DC_when h1, endV, hc, joined_fl, wrN_at, set_at, rdN_at, back_scalar, Out.scalar, scalar, flat1, flat]
theorem other_ {h0 : List O} {a : Option Addr} {n c : Nat} {x : Nat → Nat → Int} {s : Nat → Int} {L : Int} (hx : CrossP h0 a n x s) (hS : Snd n x s L) {e : Nat × Nat} (he : InV (dgOf n x s L) e) :
  DR E 229 [dV a n c L, endV e] ⟨h0, h0.length⟩ (.ret (endV (oth (dgOf n x s L) e))) ⟨h0, h0.length⟩ := by
 refine hE.fn (body := rb229) rfl ?_
 unfold rb229
 have hc : ∀ l, CrossP (h0 ++ l) a n x s := fun l => hx.ext (Ext.snoc h0 l)
 have hG := good_of hS
 have hxe : x e.1 e.2 = (dgOf n x s L).X e.1 e.2 := sound_x hS he.1 he.2.1
 obtain ⟨he1, he2, he3⟩ := id he
 have hsg := hG.sign e.1 he1
 have h1 := fun h k => end_ hE (h0 := h) (a := a) (x := x) (c := c) k hS he3 (outB (s e.1) e.2)
 have hto := tgt_oth hG he
 rw [show (dgOf n x s L).s = s from rfl] at hto
 simp only [hto] at h1
 have hin := fun h => In_ hE (h := h) (x := x e.1) (s := s e.1) hsg he2
 simp only [dV, endV, crossV] at h1 hin
 obtain ⟨xb, xo, hxa, hxr⟩ := hx
 have he1' : e.1 < n := he1
 obtain rfl := hxa (by omega)
 obtain ⟨rq, rs⟩ := CrossP.reads hxr he1'
 have hcr := hxr _ he1'
 have r1 : ∀ l, rd (h0 ++ l) xb (xo + e.1 * 5 + e.2) = some (.int .i64 ((dgOf n x s L).X e.1 e.2)) := fun l => by rw [← hxe]; exact rd_append (rq _ he2) l
 have r2 : ∀ l, rdN (h0 ++ l) xb (xo + e.1 * 5) 5 = some (crossC (x e.1) (s e.1)) := fun l => rdN_append hcr l
 simp only [crossC] at r2
 have he2' : (e.2 : Int) < 4 := by omega
 simp [dV, endV, rdN_at0, rd_at0, List.append_assoc, he1', he2', r1, r2, rd_at, rdN_at, DC_when h1, DC_q hin, hc, joined_fl, wrN_at, set_at, back_scalar, Out.scalar, scalar, flat1, flat]
 exact ⟨by decide, by decide, fun h => absurd h (by decide), fun h => absurd h (by decide)⟩
theorem next2_ {h0 : List O} {a : Option Addr} {n c : Nat} {x : Nat → Nat → Int} {s : Nat → Int} {L : Int} (hx : CrossP h0 a n x s) (hS : Snd n x s L) {arc : Nat} (ha : arc < 2 * n) :
  DR E 143 [dV a n c L, .int .i64 arc] ⟨h0, h0.length⟩ (.ret (.int .i64 (nx (dgOf n x s L) arc))) ⟨h0, h0.length⟩ := by
 refine hE.fn (body := rb143) rfl ?_
 unfold rb143
 have hc : ∀ l, CrossP (h0 ++ l) a n x s := fun l => hx.ext (Ext.snoc h0 l)
 have hG := good_of hS
 have h1 := fun h k => endIn hE (h0 := h) (a := a) (x := x) (c := c) k hS ha
 simp only [dV, endV] at h1
 obtain ⟨t, ht⟩ : ∃ t, t = tgt (dgOf n x s L) arc true := ⟨_, rfl⟩
 obtain ⟨ht1, ht2⟩ := tgt_in hG (a := arc) ha true
 have hnx : nx (dgOf n x s L) arc = (dgOf n x s L).X t.1 ((t.2 + 2) % 4) := by rw [ht]; rfl
 have hsz := hG.size
 rw [hnx]
 rw [← ht] at ht1 ht2 h1
 have ht1' : t.1 < n := ht1
 have hsz' : n ≤ 100000 ∨ True := .inr trivial
 obtain ⟨xb, xo, hxa, hxr⟩ := hx
 obtain rfl := hxa (by omega)
 obtain ⟨rq, rs⟩ := CrossP.reads hxr ht1'
 have hw : IntKind.i64.wrap ((t.2 : Int) + 2) = t.2 + 2 := by rw [w64_id] <;> omega
 have r1 : ∀ l, rd (h0 ++ l) xb (xo + t.1 * 5 + (t.2 + 2) % 4) = some (.int .i64 ((dgOf n x s L).X t.1 ((t.2 + 2) % 4))) := fun l => by rw [← sound_x hS ht1' (by omega)]; exact rd_append (rq _ (by omega)) l
 have hmod : ((t.2 : Int) + 2).tmod 4 = ((t.2 + 2) % 4 : Nat) := tmod_add _ 2 4
 obtain ⟨w, hww⟩ : ∃ w, w = (t.2 + 2) % 4 := ⟨_, rfl⟩
 rw [← hww] at hmod r1 ⊢
 have hlt : (w : Int) < 4 := by omega
 simp [dV, rdN_at0, rd_at, rd_at0, List.append_assoc, DC_when h1, hc, endV, ht1', hw, joined_fl, wrN_at, set_at, back_scalar, Out.scalar, scalar, flat1, flat, hmod, hlt, r1]
end Go.Proofs.Ytjlkndkedknocaa
namespace Go.Proofs.Ytjlkndkedknocaa
open Go Go.Ai
attribute [local instance] Classical.propDecidable
variable {E : Env} (hE : OE E)
include hE
theorem of_ {h0 : List O} {a : Option Addr} {n c : Nat} {x : Nat → Nat → Int} {s : Nat → Int} {L : Int} (hx : CrossP h0 a n x s) (hS : Snd n x s L) :
  DC E 65 [dV a n c L] ⟨h0, h0.length⟩ fun o st' => ∃ (xs : List Int) (k : Nat), o = .ret (.slice (some ⟨h0.length + 1, 0, none⟩) (2 * n) (2 * n)) ∧ h0.length ≤ st'.fl ∧ Sub h0 st'.h ∧
   AtB st'.h (h0.length + 1) (.cells (intsC xs) 3 (some 0)) ∧ OrbI (2 * n) (nx (dgOf n x s L)) (2 * n) k xs ∧ k ≤ 2 * n := by
 refine hE.fnC (body := rb65) rfl ?_
 unfold rb65
 have hG := good_of hS
 obtain ⟨G, hGe⟩ : ∃ G, G = dgOf n x s L := ⟨_, rfl⟩
 have hGn : G.n = n := by rw [hGe]; rfl
 have hN := nx_perm hG
 have hnxt := fun {arc : Nat} (ha : arc < 2 * n) h k => next2_ hE (h0 := h) (a := a) (x := x) (c := c) k hS ha
 simp only [dV] at hnxt
 rw [← hGe] at hG hN ⊢
 simp only [← hGe] at hnxt
 have hsz := hG.size
 rw [hGn] at hsz hN
 obtain ⟨hB, hhB⟩ : ∃ H, H = h0 ++ [O.cells [.slice a n c, .int .i64 L] 24 (some 0)] := ⟨_, rfl⟩
 have lB : hB.length = h0.length + 1 := by rw [hhB]; simp
 have sB : Sub h0 hB := by rw [hhB]; exact (Sub.refl _).app _
 have bB : hB[h0.length]? = some (O.cells [.slice a n c, .int .i64 L] 24 (some 0)) := by rw [hhB, app_at0]; rfl
 have e0 : (0 : Int) ≤ 2 * n := by omega
 have e1 : 2 * (n : Int) * 8 ≤ 140737488355328 := by omega
 have e2 : 2 * (n : Int) < 4611686018427387904 := by omega
 have e3 : (2 * (n : Int)).toNat = 2 * n := by omega
 have hw0 : IntKind.i64.wrap (2 * (n : Int)) = 2 * n := by rw [w64_id] <;> omega
 simp [dV, rd_at0, e0, e1, e2, e3, hw0, List.append_assoc]
 obtain ⟨m, hm0⟩ : ∃ m, m = h0.length + 1 := ⟨_, rfl⟩
 rw [← hm0] at lB ⊢
 refine DW_loop (fun kk fr st => ∃ (i : Nat) (h : List O) (xs : List Int), i + kk = 2 * n ∧ st = ⟨h, h0.length⟩ ∧ Sub hB h ∧ AtB h m (.cells (intsC xs) 3 (some 0)) ∧ xs.length = 2 * n ∧ (∀ j, j < i → nth xs j = -1) ∧ get fr 1 = .pointer (some ⟨h0.length, 0, none⟩) ∧ get fr 4 = .slice (some ⟨m, 0, none⟩) (2 * n) (2 * n) ∧ get fr 3 = .int .i64 (2 * n) ∧ get fr 5 = .int .i64 i) ?_ (k := 2 * n) ?_
 ·rintro kk fr st ⟨i, h, xs, hik, rfl, hsub, hatB, hlen, hm, g1, g4, g3, g5⟩
  have hat := hatB
  unfold AtB at hat
  by_cases hi : i < 2 * n
  ·have hi' : (i : Int) < 2 * n := by omega
   have hw : IntKind.i64.wrap ((i : Int) + 1) = (i : Int) + 1 := by rw [w64_id] <;> omega
   have hi2 : i < xs.length := by omega
   have hi3 : i + 1 ≤ 2 * n := by omega
   have hmin : min h0.length m = h0.length := by omega
   simp [g1, g4, g3, g5, hi, hi', wrN_def, hat, hlen, intsC_set, hw, hi3, hmin]
   refine ⟨kk - 1, by omega, i + 1, by omega, hsub.set (by omega) _, xs.set i (-1), set_self hat, by simp [hlen], fun j hj => ?_, by omega⟩
   rw [nth_set hi2]
   by_cases e : j = i
   ·rw [if_pos e]
   ·rw [if_neg e]; exact hm j (by omega)
  ·have hin : i = 2 * n := by omega
   subst hin
   simp [g1, g4, g3, g5]
   have hO := OrbI.start (f := nx G) hlen (fun j hj => hm j hj)
   refine DW_loop (fun kk fr st => ∃ (i : Nat) (h : List O) (xs : List Int) (cnt : Nat), i + kk = 2 * n ∧ st = ⟨h, h0.length⟩ ∧ Sub hB h ∧ AtB h m (.cells (intsC xs) 3 (some 0)) ∧ OrbI (2 * n) (nx G) i cnt xs ∧ cnt ≤ i ∧ get fr 1 = .pointer (some ⟨h0.length, 0, none⟩) ∧ get fr 4 = .slice (some ⟨m, 0, none⟩) (2 * n) (2 * n) ∧ get fr 6 = .int .i64 cnt ∧ get fr 3 = .int .i64 (2 * n) ∧ get fr 7 = .int .i64 i) ?_ (k := 2 * n) ?_
   ·clear g1 g4 g3 g5 hO hm hlen hat hatB hsub hik
    clear xs h
    rintro kk fr st ⟨i, h, xs, cnt, hik, rfl, hsub, hatB, hO, hcnt, g1, g4, g6, g3, g7⟩
    have hat := hatB
    unfold AtB at hat
    have hlen := hO.len
    by_cases hi : i < 2 * n
    ·have hi' : (i : Int) < 2 * n := by omega
     have hw : IntKind.i64.wrap ((i : Int) + 1) = (i : Int) + 1 := by rw [w64_id] <;> omega
     have hi2 : i < xs.length := by omega
     by_cases hf : 0 ≤ nth xs i
     ·simp [g1, g4, g6, g3, g7, hi, hi', rd_def, hat, intsC_get hi2, hf, hw]
      exact ⟨kk - 1, by omega, i + 1, by omega, hsub, xs, hatB, cnt, hO.skip hf, by omega, rfl, by omega⟩
     ·have hneg : nth xs i < 0 := by omega
      simp [g1, g4, g6, g3, g7, hi, hi', rd_def, hat, intsC_get hi2, hf]
      obtain ⟨P, ⟨p1, p2, p3⟩, p4⟩ := hN.period hi
      refine DW_loop (fun kk' fr st => ∃ (t : Nat) (h : List O) (xs' : List Int), t + kk' = P ∧ st = ⟨h, h0.length⟩ ∧ Sub hB h ∧ AtB h m (.cells (intsC xs') 3 (some 0)) ∧ OrbT (2 * n) (nx G) i cnt t xs xs' ∧ get fr 1 = .pointer (some ⟨h0.length, 0, none⟩) ∧ get fr 4 = .slice (some ⟨m, 0, none⟩) (2 * n) (2 * n) ∧ get fr 6 = .int .i64 cnt ∧ get fr 3 = .int .i64 (2 * n) ∧ get fr 7 = .int .i64 i ∧ get fr 8 = .int .i64 (itr (nx G) i t)) ?_ (k := P) ?_
      ·clear g1 g4 g6 g3 g7
       rintro kk' fr st ⟨t, h', xs', htk, rfl, hsub', hatB', hT, g1, g4, g6, g3, g7, g8⟩
       have hat' := hatB'
       unfold AtB at hat'
       have hb := hN.itr_lt hi t
       have hb' : ((itr (nx G) i t : Nat) : Int) < 2 * n := by omega
       have hb2 : itr (nx G) i t < xs'.length := by rw [hT.len]; exact hb
       have hb3 : itr (nx G) i t + 1 ≤ 2 * n := by omega
       by_cases ht : t < P
       ·have hng := hT.neg hN hO hi hneg p4 ht
        have hnx := hnxt hb
        have hss : ∀ o, Sub hB (h'.set m o) := fun o => hsub'.set (by omega) o
        have hcs : ∀ o, CrossP (h'.set m o) a n x s := fun o => hx.sub (sB.trans (hss o))
        have hbx : ∀ o, (h'.set m o)[h0.length]? = some (O.cells [.slice a n c, .int .i64 L] 24 (some 0)) := fun o => hss o _ _ bB
        have hmin : min h0.length m = h0.length := by omega
        simp [g1, g4, g6, g3, g7, g8, hb', rd_def, wrN_def, hat', intsC_get hb2, hng, intsC_set, hT.len, hb3, hmin, rdN_def, hbx, DC_when hnx, hcs, joined_fl]
        exact ⟨kk' - 1, by omega, t + 1, by omega, hsub'.set (by omega) _, _, set_self hat', hT.next hb, rfl⟩
       ·have : t = P := by omega
        subst this
        have hng : ¬ nth xs' (itr (nx G) i t) < 0 := by
         rw [hT.at_, if_pos ⟨0, p1, by rw [p2]; rfl⟩]; omega
        have hw2 : IntKind.i64.wrap ((cnt : Int) + 1) = (cnt : Int) + 1 := by rw [w64_id] <;> omega
        simp [g1, g4, g6, g3, g7, g8, hb', rd_def, hat', intsC_get hb2, hng, hw, hw2]
        exact ⟨kk - 1, by omega, i + 1, by omega, hsub', xs', hatB', cnt + 1, hT.finish hN hO hi hneg p1 p2, by omega, by omega, by omega⟩
      ·exact ⟨0, h, xs, by omega, rfl, hsub, hatB, OrbT.start hO, by simp [g1, g4, g6, g3, g7, itr]⟩
    ·have hin : i = 2 * n := by omega
     have hi' : ¬ (i : Int) < 2 * n := by omega
     simp [g1, g4, g6, g3, g7, hi', endK_ret]
     unfold pairQ back
     rw [if_neg (by simp [Out.scalar, scalar, flat1, flat])]
     rw [hin] at hO hcnt
     exact ⟨rfl, Nat.le_refl _, sB.trans hsub, xs, hatB, cnt, hO, hcnt⟩
   ·exact ⟨0, h, xs, 0, by omega, rfl, hsub, hatB, hO, by omega, by simp [g1, g4, g3]⟩
 ·refine ⟨0, _, List.replicate (2 * n) 0, by omega, rfl, ?_, ?_, by simp, fun j h => by omega, by simp⟩
  ·rw [hhB]
   exact (Ext.sub ⟨[O.cells (rep (2 * n) [.int .i64 0]) 3 (some 0)], by simp⟩)
  ·unfold AtB
   rw [hm0, app_at]
   simp [rep, intsC]
end Go.Proofs.Ytjlkndkedknocaa
namespace Go.Proofs.Ytjlkndkedknocaa
open Go Go.Ai
attribute [local instance] Classical.propDecidable
variable {E : Env} (hE : OE E)
include hE
theorem count_ {h0 : List O} {a : Option Addr} {n c : Nat} {x : Nat → Nat → Int} {s : Nat → Int} {L : Int} (hx : CrossP h0 a n x s) (hS : Snd n x s L) :
  DC E 31 [dV a n c L] ⟨h0, h0.length⟩ fun o st' => ∃ (xs : List Int) (k : Nat), OrbI (2 * n) (nx (dgOf n x s L)) (2 * n) k xs ∧ k ≤ 2 * n ∧ o = .ret (.int .i64 (k + L)) ∧ st' = ⟨h0, h0.length⟩ := by
 refine hE.fnC (body := rb31) rfl ?_
 unfold rb31
 have hG := good_of hS
 have hsz : n ≤ 200 := hG.size
 have hL : 0 ≤ L ∧ L ≤ 200 := hG.loops
 have h1 := of_ hE (c := c) (hx.ext (Ext.snoc h0 [O.cells [.slice a n c, .int .i64 L] 24 (some 0)])) hS
 simp [dV] at h1
 simp [dV, rdN_at0]
 refine h1.imp ?_
 rintro o ⟨h2, f2⟩ ⟨rfl, hf, hs, xs, hat, k, hO, hk⟩
 simp only at hf hs hat
 have hbox : h2[h0.length]? = some (O.cells [.slice a n c, .int .i64 L] 24 (some 0)) := hs _ _ (app_at0 _ _)
 obtain ⟨m, hm⟩ : ∃ m, m = h0.length + 1 + 1 := ⟨_, rfl⟩
 have hlen := hO.len
 unfold AtB at hat
 simp [joined_fl, hf]
 rw [← hm] at hat ⊢
 refine DW_loop (fun kk fr st => ∃ (i w : Nat), i + kk = 2 * n ∧ st = ⟨h2, h0.length⟩ ∧ (∀ j, j < i → nth xs j + 1 ≤ w) ∧ w ≤ k ∧ get fr 1 = .pointer (some ⟨h0.length, 0, none⟩) ∧ get fr 3 = .slice (some ⟨m, 0, none⟩) (2 * n) (2 * n) ∧ get fr 4 = .int .i64 w ∧ get fr 5 = .int .i64 i) ?_ (k := 2 * n) ?_
 ·rintro kk fr st ⟨i, w, hik, rfl, hw, hwk, g1, g3, g4, g5⟩
  by_cases hi : i < 2 * n
  ·have hi' : (i : Int) < 2 * n := by omega
   have hwr : IntKind.i64.wrap ((i : Int) + 1) = (i : Int) + 1 := by rw [w64_id] <;> omega
   have hi2 : i < xs.length := by omega
   have hd := hO.done i hi
   have hv : nth xs i < k := by rcases hO.val i hi with h | h <;> omega
   have hwr2 : IntKind.i64.wrap (nth xs i + 1) = nth xs i + 1 := by rw [w64_id] <;> omega
   simp [g1, g3, g4, g5, hi, hi', rd_def, hat, intsC_get hi2, hwr, hwr2]
   refine ⟨kk - 1, by omega, i + 1, by omega, max w ((nth xs i).toNat + 1), fun j hj => ?_, by omega, by omega, by omega⟩
   by_cases e : j = i
   ·rw [e]; omega
   ·have := hw j (by omega); omega
  ·have hin : i = 2 * n := by omega
   have hi' : ¬ (i : Int) < 2 * n := by omega
   have hwk2 : w = k := by
    apply Classical.byContradiction
    intro hne
    obtain ⟨a', ha1, ha2, _⟩ := hO.ord w (by omega)
    have := hw a' (by omega)
    omega
   have hwr : IntKind.i64.wrap ((k : Int) + L) = k + L := by rw [w64_id] <;> omega
   subst hwk2
   simp [g1, g3, g4, g5, hi', rd_def, hbox, hwr, back_scalar, Out.scalar, scalar, flat1, flat]
   exact ⟨⟨xs, hO⟩, hk⟩
 ·exact ⟨0, 0, by omega, rfl, fun j hj => by omega, by omega, by simp⟩
end Go.Proofs.Ytjlkndkedknocaa
