/- Texts that were built one by one: Odq, Or1, Oh, Pg1, Pg2, Wp1, Pl1, Pl2, Wa1, Wa2, Wa3, Wa4, Wa5, Wc1, Od18, Wc2, Wm1, Wm2. -/
import Derived.Test.YtjlkndkedknocaaMe
import Derived.Test.YtjlkndkedknocaaAiFm
import Derived.Test.YtjlkndkedknocaaMd
import Derived.Test.YtjlkndkedknocaaChecked
import Derived.KernelRfl
import Derived.Test.YtjlkndkedknocaaRows
import Derived.WalkKit
import Derived.ProofKit
import Derived.OpenShut
import Derived.SizedLaws
set_option linter.unusedSimpArgs false
set_option linter.unusedVariables false
namespace Go.Proofs.Ytjlkndkedknocaa
open Go Go.Ai
attribute [local instance] Classical.propDecidable
theorem rdN_block {h : List O} {b o n : Nat} {l : List Value} (hr : rdN h b o n = some l) : ∃ c el ow, h[b]? = some (.cells c el ow) ∧ o + n ≤ c.length ∧ l = (c.drop o).take n := by
 unfold rdN at hr
 split at hr
 ·rename_i c el ow hb
  split at hr
  ·rename_i hl
   exact ⟨c, el, ow, hb, hl, (Option.some.inj hr).symm⟩
  ·cases hr
 ·cases hr
theorem CrossP.whole {h : List O} {a : Option Addr} {n : Nat} {x : Nat → Nat → Int} {s : Nat → Int} (k : CrossP h a n x s) (hn : 0 < n) : ∃ b o l, a = some ⟨b, o, none⟩ ∧ rdN h b o (n * 5) = some l ∧ l.length = n * 5 ∧ l.all one1 = true ∧ ∀ i, i < n → (l.drop (i * 5)).take 5 = crossC (x i) (s i) := by
 obtain ⟨b, o, h1, h2⟩ := k
 obtain ⟨c, el, ow, hb, hl, _⟩ := rdN_block (h2 (n - 1) (by omega))
 have hle : o + n * 5 ≤ c.length := by omega
 have hparts : ∀ i, i < n → (((c.drop o).take (n * 5)).drop (i * 5)).take 5 = crossC (x i) (s i) := fun i hi => by
  have h3 := h2 i hi
  rw [rdN_def, hb, rdNO_cells, if_pos (by omega)] at h3
  have h4 := Option.some.inj h3
  rw [List.drop_take, List.drop_drop, List.take_take, Nat.min_eq_left (by omega)]
  exact h4
 have hlen : ((c.drop o).take (n * 5)).length = n * 5 := by simp; omega
 obtain ⟨m, hm⟩ : ∃ m, m = (c.drop o).take (n * 5) := ⟨_, rfl⟩
 rw [← hm] at hparts hlen
 refine ⟨b, o, m, h1 hn, by rw [rdN_def, hb, rdNO_cells, if_pos hle, hm], hlen, ?_, hparts⟩
 clear hm
 rw [List.all_eq_true]
 intro v hv
 obtain ⟨j, hj, rfl⟩ := List.getElem_of_mem hv
 have hj2 : j < n * 5 := by omega
 have h3 := hparts (j / 5) (by omega)
 have h4 := congrArg (fun l => l[j % 5]?) h3
 simp only [List.getElem?_take, List.getElem?_drop] at h4
 rw [if_pos (Nat.mod_lt _ (by omega)), show j / 5 * 5 + j % 5 = j by omega, List.getElem?_eq_getElem hj] at h4
 have h5 : j % 5 < 5 := Nat.mod_lt _ (by omega)
 generalize j % 5 = q at h4 h5
 match q, h5 with
 | 0, _ => rw [Option.some.inj h4]; rfl
 | 1, _ => rw [Option.some.inj h4]; rfl
 | 2, _ => rw [Option.some.inj h4]; rfl
 | 3, _ => rw [Option.some.inj h4]; rfl
 | 4, _ => rw [Option.some.inj h4]; rfl
variable {E : Env} (hE : OE E)
include hE
end Go.Proofs.Ytjlkndkedknocaa
namespace Go.Proofs.Ytjlkndkedknocaa
open Go Go.Ai
theorem follows : Try.prog.follows .mixedOrders = true := by kernel_rfl
noncomputable def mine : List Nat := (List.range rfs.length).filter fun f => (rF f).isSome
theorem codes : mine.map (compileF Try.prog) = mine.map rF := by kernel_rfl
def callableB (P : Program) (f : FuncId) : Bool := match P.funcs[f]? with
 | some fn => !(fn.name == "runtime.NumGoroutine") && fn.body.isSome
 | none => false
theorem callableB_ok {P : Program} {f : FuncId} (h : callableB P f = true) : Callable P f := by
 unfold callableB at h
 split at h
 ·rename_i fn hfn
  simp only [Bool.and_eq_true, Bool.not_eq_true', beq_eq_false_iff_ne] at h
  refine ⟨fn, hfn, h.1, fun hb => ?_⟩
  rw [hb] at h
  simp at h
 ·cases h
theorem callables : mine.all (fun f => callableB Try.prog f) = true := by kernel_rfl
theorem rF_mem {f : FuncId} {rf : RFun} (h : rF f = some rf) : f ∈ mine := by
 refine List.mem_filter.2 ⟨List.mem_range.2 ?_, by rw [h]; rfl⟩
 unfold rF at h
 cases hx : rfs[f]? with
 | none => rw [hx] at h; cases h
 | some o => exact (List.getElem?_eq_some_iff.1 hx).1
theorem map_at {α : Type} {l : List Nat} {p q : Nat → α} (h : l.map p = l.map q) {x : Nat} (hx : x ∈ l) : p x = q x := by
 obtain ⟨i, hi, rfl⟩ := List.getElem_of_mem hx
 have := congrArg (fun l => l[i]?) h
 simpa [hi] using this
theorem rF_ok {f : FuncId} {rf : RFun} (h : rF f = some rf) : compileF Try.prog f = some rf ∧ Callable Try.prog f := by
 have hm := rF_mem h
 exact ⟨(map_at codes hm).trans h, callableB_ok (List.all_eq_true.1 callables f hm)⟩
noncomputable def cmpT (nt : Nat) (c : Code) : Option R := match compile Try.prog nt c with
 | some r => if noRange r then some r else none
 | none => none
theorem cmpT_ok {nt : Nat} {c : Code} {r : R} (h : cmpT nt c = some r) : compile Try.prog nt c = some r ∧ noRange r = true := by
 unfold cmpT at h
 split at h
 ·rename_i r' hr
  split at h
  ·rename_i hn
   obtain rfl := Option.some.inj h
   exact ⟨hr, hn⟩
  ·cases h
 ·cases h
noncomputable def E0 : Env := { F := rF, S := fun _ => none, cmp := cmpT }
theorem E0_ok (B : Nat) : EnvOk Fence.wide Try.prog B E0 := ⟨fun f rf h => rF_ok h, fun f s h => (by cases h), fun f s h => (by cases h), fun nt c r h => cmpT_ok h⟩
theorem E0_kept : SumsKept E0 := fun f s h => (by cases h)
end Go.Proofs.Ytjlkndkedknocaa
namespace Go.Proofs.Ytjlkndkedknocaa
open Go Go.Ai Go.ChangeShapes Go.WideShapes Go.ChangeAt Go.RowKit
set_option maxRecDepth 4000
def crossSh : List Sh := [.int .i64, .int .i64, .int .i64, .int .i64, .int .i64]
def diagSh : List Sh := [.slice crossSh, .int .i64]
theorem shapesD : shapes Try.prog 8 24 = some diagSh := by kernel_rfl
theorem shapesI : shapes Try.prog 8 3 = some [.int .i64] := by kernel_rfl
theorem shapesM : shapes Try.prog 8 48 = some [.slice [.slice [.int .i64]]] := by kernel_rfl
theorem own : ownKnob Try.prog.godebug = none := by kernel_rfl
theorem int_of {h : List O} {v : Value} (hf : Fits h (.int .i64) v) : ∃ x, v = .int .i64 x ∧ I64 x := by
 cases hf with
 | int hw =>
  rename_i y
  refine ⟨y, rfl, ?_⟩
  have : -9223372036854775808 ≤ y ∧ y ≤ 9223372036854775807 := by simpa [Lit.wf, IntKind.min, IntKind.max, IntKind.signed, IntKind.bits] using hw
  exact this
def intOf : Option Value → Int
 | some (.int _ x) => x
 | _ => 0
theorem cross_of {h : List O} {v : Value} (hf : Fits h (.slice crossSh) v) : ∃ a n c x s, v = .slice a n c ∧ CrossP h a n x s ∧ n * 40 ≤ roomMax := by
 cases hf with
 | slice b o vs hn ha hr hv =>
  rename_i a n c
  have key : ∀ i, i < n → ∃ x0 x1 x2 x3 s, vs i = [.int .i64 x0, .int .i64 x1, .int .i64 x2, .int .i64 x3, .int .i64 s] := fun i hi => by
   have h1 := hr i hi
   have hl : (vs i).length = 5 := by
    obtain ⟨c, el, ow, _, h2, h3⟩ := rdN_block h1
    rw [h3]
    simp [crossSh] at h2 ⊢
    omega
   match hvi : vs i, hl with
   | [v0, v1, v2, v3, v4], _ =>
    obtain ⟨x0, rfl, _⟩ := int_of (hv i 0 _ v0 hi rfl (by rw [hvi]; rfl))
    obtain ⟨x1, rfl, _⟩ := int_of (hv i 1 _ v1 hi rfl (by rw [hvi]; rfl))
    obtain ⟨x2, rfl, _⟩ := int_of (hv i 2 _ v2 hi rfl (by rw [hvi]; rfl))
    obtain ⟨x3, rfl, _⟩ := int_of (hv i 3 _ v3 hi rfl (by rw [hvi]; rfl))
    obtain ⟨s, rfl, _⟩ := int_of (hv i 4 _ v4 hi rfl (by rw [hvi]; rfl))
    exact ⟨x0, x1, x2, x3, s, rfl⟩
  refine ⟨a, n, c, fun i j => intOf (vs i)[j]?, fun i => intOf (vs i)[4]?, rfl, ⟨b, o, ha, fun i hi => ?_⟩, ?_⟩
  ·obtain ⟨x0, x1, x2, x3, s, e⟩ := key i hi
   have h1 := hr i hi
   rw [show crossSh.length = 5 from rfl] at h1
   rw [h1]
   simp only [crossC, e]
   rfl
  ·have h0 := hn.1
   simp [reachBytes, szB, crossSh, roomMax] at h0 ⊢
   omega
theorem diag_of {h : List O} {cs : List Value} (hf : FitsL h diagSh cs) : ∃ a n c x s L, cs = [.slice a n c, .int .i64 L] ∧ CrossP h a n x s ∧ n * 40 ≤ roomMax := by
 obtain ⟨hl, hv⟩ := hf
 match cs, hl with
 | [v, l], _ =>
  obtain ⟨a, n, c, x, s, rfl, h1, h2⟩ := cross_of (hv 0 _ v rfl rfl)
  obtain ⟨L, rfl, _⟩ := int_of (hv 1 _ l rfl rfl)
  exact ⟨a, n, c, x, s, L, rfl, h1, h2⟩
theorem arg_of {H : Type} {enc : TypeId × Value → H} {W : World} {base : Nat} {t : TypeId} {fs : Array Field} {v : Value} {d : DataW H} {ps : List MemPlace} {shs : List Sh} (ht : Try.prog.underlying t = some (.struct fs)) (hsh : shapes Try.prog 8 t = some shs)
  (hok : Value.okWide Try.prog W .any base t v) (h : DataW.Trod enc Try.prog W 0 (fun _ => true) true t v d ps) (hw : ∀ n ∈ d.weights Try.prog t, n ≤ reachBytes) :
  ∃ cs, v = .agg cs ∧ Canon W shs cs.toList := by
 obtain ⟨fuel, hx⟩ := h
 have hok' : ∃ cs, v = .agg cs ∧ cs.size = Try.prog.cellsOf t ∧ Row.okWide Try.prog W .any base t cs := by
  unfold Value.okWide at hok
  rw [ht] at hok
  exact hok
 obtain ⟨cs, rfl, _⟩ := hok'
 exact ⟨cs, rfl, canon 8 fuel t _ (d, ps) shs hsh hx hw⟩
theorem arg1_of {H : Type} {enc : TypeId × Value → H} {W : World} {base : Nat} {t : TypeId} {v : Value} {d : DataW H} {ps : List MemPlace} {sh : Sh} (ht : (∃ e, Try.prog.underlying t = some (.slice e)) ∨ ∃ k, Try.prog.underlying t = some (.int k)) (hsh : shapes Try.prog 8 t = some [sh])
  (hok : Value.okWide Try.prog W .any base t v) (h : DataW.Trod enc Try.prog W 0 (fun _ => true) true t v d ps) (hw : ∀ n ∈ d.weights Try.prog t, n ≤ reachBytes) :
  Canon W [sh] [v] := by
 obtain ⟨fuel, hx⟩ := h
 have hv : v.cells.toList = [v] := by
  unfold Value.okWide at hok
  rcases ht with ⟨e, ht⟩ | ⟨k, ht⟩
  ·rw [ht] at hok
   simp only [Cell.okWide, ht] at hok
   cases v <;> first | rfl | (exfalso; simp [Cell.ok, ht] at hok)
  ·rw [ht] at hok
   simp only [Cell.okWide, ht] at hok
   cases v <;> first | rfl | (exfalso; simp [Cell.ok, ht] at hok)
 rw [hv] at hx
 exact canon 8 fuel t _ (d, ps) [sh] hsh hx hw
theorem single_of {ρ : RM} {h : List O} {sh : Sh} {cs : List Value} {v : Value} (hr : LRel ρ cs [v]) (hf : FitsL h [sh] cs) : ∃ w, cs = [w] ∧ VRel ρ w v ∧ Fits h sh w := by
 obtain ⟨hl, hv⟩ := hf
 match cs, hl with
 | [w], _ => exact ⟨w, rfl, hr.2 0 w v rfl rfl, hv 0 _ _ rfl rfl⟩
theorem start (W : World) : SRel W.heap.size (fun _ => none) W ⟨[], 0⟩ :=
 ⟨⟨Nat.le_refl _, fun id l h => by simp at h, fun id l h => by simp at h, fun id l h => by simp at h, fun i j li lj _ h => by simp at h⟩, fun id l h => by simp at h⟩
def zeroD : Value := .agg #[.slice none 0 0, .int .i64 0]
end Go.Proofs.Ytjlkndkedknocaa
namespace Go.Ai
attribute [local instance] Classical.propDecidable
theorem leastP {P : Nat → Prop} (h : ∃ m, P m) : ∃ m, P m ∧ ∀ k, k < m → ¬ P k := by
 obtain ⟨m, hm⟩ := h
 induction m using Nat.strongRecOn with
 | ind m ih =>
  by_cases hk : ∃ k, k < m ∧ P k
  ·obtain ⟨k, h1, h2⟩ := hk
   exact ih k h1 h2
  ·exact ⟨m, hm, fun k h1 h2 => hk ⟨k, h1, h2⟩⟩
theorem cnt_remove {q : Nat → Prop} {v : Nat} (hq : q v) : ∀ {M : Nat}, v < M → cntP (fun x => q x ∧ x ≠ v) M + 1 = cntP q M := by
 intro M
 induction M with
 | zero => intro h; omega
 | succ M ih =>
  intro h
  simp only [cntP]
  by_cases e : v = M
  ·subst e
   rw [if_pos hq, if_neg (fun h => h.2 rfl), cntP_congr (q := q) fun i hi => ⟨fun h => h.1, fun h => ⟨h, by omega⟩⟩]
  ·have := ih (by omega)
   by_cases hm : q M
   ·rw [if_pos hm, if_pos ⟨hm, fun e' => e e'.symm⟩]; omega
   ·rw [if_neg hm, if_neg (fun h => hm h.1)]; omega
theorem cnt_inj {M' : Nat} (φ : Nat → Nat) {q : Nat → Prop} : ∀ {M : Nat} {q' : Nat → Prop}, (∀ a, a < M → q a → φ a < M' ∧ q' (φ a)) → (∀ a b, a < M → b < M → q a → q b → φ a = φ b → a = b) → cntP q M ≤ cntP q' M' := by
 intro M
 induction M with
 | zero => intro q' _ _; simp [cntP]
 | succ M ih =>
  intro q' h1 h2
  simp only [cntP]
  by_cases hm : q M
  ·obtain ⟨k1, k2⟩ := h1 M (by omega) hm
   have hr := cnt_remove k2 k1
   have hi := ih (q' := fun x => q' x ∧ x ≠ φ M) (fun a ha hq => by
    obtain ⟨z1, z2⟩ := h1 a (by omega) hq
    exact ⟨z1, z2, fun e => by have := h2 a M (by omega) (by omega) hq hm e; omega⟩) (fun a b ha hb => h2 a b (by omega) (by omega))
   rw [if_pos hm]; omega
  ·rw [if_neg hm]
   exact ih (fun a ha => h1 a (by omega)) (fun a b ha hb => h2 a b (by omega) (by omega))
noncomputable def clsP (M : Nat) (R : Nat → Nat → Prop) (p : Nat → Prop) : Nat := cntP (fun j => p j ∧ ∀ i, i < j → ¬ R i j) M
structure EqvN (M : Nat) (R : Nat → Nat → Prop) : Prop where
 refl : ∀ a, a < M → R a a
 symm : ∀ a b, a < M → b < M → R a b → R b a
 trans : ∀ a b c, a < M → b < M → c < M → R a b → R b c → R a c
theorem cls_le {M M' : Nat} {R R' : Nat → Nat → Prop} {p p' : Nat → Prop} (φ : Nat → Nat) (hR : EqvN M R) (hR' : EqvN M' R') (h1 : ∀ a, a < M → p a → φ a < M' ∧ p' (φ a)) (h2 : ∀ a b, a < M → b < M → p a → p b → R' (φ a) (φ b) → R a b) (hp : ∀ x y, x < M' → y < M' → R' x y → p' x → p' y) : clsP M R p ≤ clsP M' R' p' := by
 have hex : ∀ a, ∃ m, a < M → p a → (m ≤ φ a ∧ R' m (φ a) ∧ ∀ k, k < m → ¬ R' k (φ a)) := fun a => by
  by_cases ha : a < M ∧ p a
  ·have hφ := (h1 a ha.1 ha.2).1
   obtain ⟨m, hm, hl⟩ := leastP (P := fun m => R' m (φ a)) ⟨φ a, hR'.refl _ hφ⟩
   refine ⟨m, fun _ _ => ⟨?_, hm, hl⟩⟩
   rcases Nat.lt_or_ge (φ a) m with h | h
   ·exact absurd (hR'.refl _ hφ) (hl _ h)
   ·exact h
  ·exact ⟨0, fun h h' => absurd ⟨h, h'⟩ ha⟩
 unfold clsP
 refine cnt_inj (fun a => (hex a).choose) (fun a ha hq => ?_) (fun a b ha hb hqa hqb he => ?_)
 ·obtain ⟨k1, k2, k3⟩ := (hex a).choose_spec ha hq.1
  obtain ⟨z1, z2⟩ := h1 a ha hq.1
  have hm : (hex a).choose < M' := by omega
  refine ⟨hm, hp _ _ z1 hm (hR'.symm _ _ hm z1 k2) z2, fun i hi hr => k3 i hi (hR'.trans _ _ _ (by omega) hm z1 hr k2)⟩
 ·obtain ⟨k1, k2, _⟩ := (hex a).choose_spec ha hqa.1
  obtain ⟨l1, l2, _⟩ := (hex b).choose_spec hb hqb.1
  have za := (h1 a ha hqa.1).1
  have zb := (h1 b hb hqb.1).1
  have he : (hex a).choose = (hex b).choose := he
  rw [← he] at l2 l1
  have hm : (hex a).choose < M' := by omega
  have hr := h2 a b ha hb hqa.1 hqb.1 (hR'.trans _ _ _ za hm zb (hR'.symm _ _ hm za k2) l2)
  rcases Nat.lt_trichotomy a b with h | h | h
  ·exact absurd hr (hqb.2 a h)
  ·exact h
  ·exact absurd (hR.symm _ _ ha hb hr) (hqa.2 b h)
end Go.Ai
namespace Go.Proofs.Ytjlkndkedknocaa
open Go Go.Ai
attribute [local instance] Classical.propDecidable
def SameR (G : Dg) (x y : Nat × Nat) : Prop := ∃ t, orb G x t = y
theorem SameR.refl (G : Dg) (x : Nat × Nat) : SameR G x x := ⟨0, rfl⟩
theorem SameR.trans {G : Dg} {x y z : Nat × Nat} (h : SameR G x y) (k : SameR G y z) : SameR G x z := by
 obtain ⟨s, rfl⟩ := h
 obtain ⟨t, rfl⟩ := k
 exact ⟨s + t, orb_add x s t⟩
theorem orb_mul {G : Dg} {x : Nat × Nat} {P : Nat} (hP : orb G x P = x) : ∀ k, orb G x (k * P) = x := by
 intro k
 induction k with
 | zero => simp [orb]
 | succ k ih => rw [Nat.succ_mul, orb_add, ih, hP]
theorem SameR.symm {G : Dg} (hG : GoodG G) {x y : Nat × Nat} (hx : InV G x) (h : SameR G x y) : SameR G y x := by
 obtain ⟨t, rfl⟩ := h
 obtain ⟨P, ⟨p1, p2, p3⟩, _⟩ := orb_period hG hx
 refine ⟨t * P - t, ?_⟩
 have : t ≤ t * P := Nat.le_mul_of_pos_right t p1
 rw [← orb_add, show t + (t * P - t) = t * P by omega]
 exact orb_mul p2 t
theorem SameR.step (G : Dg) (x : Nat × Nat) : SameR G x (nxt G x) := ⟨1, rfl⟩
theorem SameR.conn {G : Dg} (hG : GoodG G) {x y : Nat × Nat} (hx : InV G x) (h : SameR G x y) : Conn G x.1 y.1 := by
 obtain ⟨t, rfl⟩ := h
 induction t with
 | zero => exact .refl _
 | succ t ih =>
  have := orb_inV hG hx t
  exact ih.step (orb G x t).2 this.2.1
theorem mem_orbL {G : Dg} (hG : GoodG G) {x e : Nat × Nat} (hx : InV G x) : e ∈ orbL G x ↔ SameR G x e := by
 obtain ⟨⟨p1, p2, p3⟩, _⟩ := per_spec hG hx
 unfold orbL orbN
 rw [List.mem_map]
 constructor
 ·rintro ⟨i, _, rfl⟩; exact ⟨i, rfl⟩
 ·rintro ⟨t, rfl⟩
  refine ⟨t % per G x, List.mem_range.2 (Nat.mod_lt _ p1), ?_⟩
  have e : t = t / per G x * per G x + t % per G x := by have := Nat.div_add_mod t (per G x); rw [Nat.mul_comm] at this; omega
  have h := orb_add (G := G) x (t / per G x * per G x) (t % per G x)
  rw [← e, orb_mul p2] at h
  exact h.symm
theorem endOf_inV {G : Dg} (hG : GoodG G) {j : Nat} (hj : j < 4 * G.n) : InV G (endOf j) := hG.inV (by simp [endOf]; omega) (by simp [endOf]; omega)
theorem mem_vis {G : Dg} (hG : GoodG G) : ∀ j, j ≤ 4 * G.n → ∀ e, (e ∈ (vis G j).1 ↔ ∃ i, i < j ∧ SameR G (endOf i) e) := by
 intro j
 induction j with
 | zero => intro _ e; simp [vis]
 | succ j ih =>
  intro hj e
  have ih' := ih (by omega)
  simp only [vis]
  have hv := endOf_inV hG (show j < 4 * G.n by omega)
  split
  ·rename_i hm
   rw [ih']
   constructor
   ·rintro ⟨i, h1, h2⟩; exact ⟨i, by omega, h2⟩
   ·rintro ⟨i, h1, h2⟩
    by_cases h : i < j
    ·exact ⟨i, h, h2⟩
    ·obtain rfl : i = j := by omega
     obtain ⟨i', k1, k2⟩ := (ih' _).1 hm
     exact ⟨i', k1, k2.trans h2⟩
  ·rw [List.mem_append, mem_orbL hG hv, ih']
   constructor
   ·rintro (⟨i, h1, h2⟩ | h)
    ·exact ⟨i, by omega, h2⟩
    ·exact ⟨j, by omega, h⟩
   ·rintro ⟨i, h1, h2⟩
    by_cases h : i < j
    ·exact .inl ⟨i, h, h2⟩
    ·obtain rfl : i = j := by omega
     exact .inr h2
def RegN (G : Dg) (i j : Nat) : Prop := SameR G (endOf i) (endOf j)
theorem RegN.eqv {G : Dg} (hG : GoodG G) : EqvN (4 * G.n) (RegN G) :=
 ⟨fun a _ => .refl _ _, fun a b ha _ h => h.symm hG (endOf_inV hG ha), fun a b c _ _ _ h k => h.trans k⟩
theorem regs_cls {G : Dg} (hG : GoodG G) (U : Nat → Prop) : cntP (fun t => U (rhead G t)) (regs G).length = clsP (4 * G.n) (RegN G) (fun j => U (j / 4)) := by
 have key : ∀ j, j ≤ 4 * G.n → cntP (fun t => U ((((vis G j).2.getD t []).headD (0, 0)).1)) (vis G j).2.length = cntP (fun j => U (j / 4) ∧ ∀ i, i < j → ¬ RegN G i j) j := by
  intro j
  induction j with
  | zero => intro _; simp [vis, cntP]
  | succ j ih =>
   intro hj
   have ih' := ih (by omega)
   have hv := endOf_inV hG (show j < 4 * G.n by omega)
   have hm := mem_vis hG j (by omega) (endOf j)
   simp only [vis, cntP]
   split
   ·rename_i h
    obtain ⟨i, k1, k2⟩ := hm.1 h
    rw [if_neg (fun h' => h'.2 i k1 k2), ih']
    rfl
   ·rename_i h
    have hn : ∀ i, i < j → ¬ RegN G i j := fun i hi hr => h (hm.2 ⟨i, hi, hr⟩)
    obtain ⟨l, hl⟩ := orbL_head hG hv
    simp only [List.length_append, List.length_cons, List.length_nil, cntP, Nat.zero_add]
    have e1 : cntP (fun t => U (((((vis G j).2 ++ [orbL G (endOf j)]).getD t []).headD (0, 0)).1)) (vis G j).2.length = cntP (fun t => U ((((vis G j).2.getD t []).headD (0, 0)).1)) (vis G j).2.length := cntP_congr fun t ht => by
     simp only [List.getD_eq_getElem?_getD]
     rw [List.getElem?_append_left ht]
    have e2 : ((((vis G j).2 ++ [orbL G (endOf j)]).getD (vis G j).2.length []).headD (0, 0)).1 = j / 4 := by
     simp only [List.getD_eq_getElem?_getD]
     rw [List.getElem?_append_right (Nat.le_refl _), Nat.sub_self, hl]
     rfl
    rw [e1, ih', e2]
    by_cases hu : U (j / 4)
    ·rw [if_pos hu, if_pos ⟨hu, hn⟩]
    ·rw [if_neg hu, if_neg (fun h => hu h.1)]
 exact key _ (Nat.le_refl _)
theorem regs_le {G H : Dg} (hG : GoodG G) (hH : GoodG H) (φ : Nat × Nat → Nat × Nat) {c d : Nat} (hc : c < G.n) (hd : d < H.n) (h1 : ∀ x, InV G x → Conn G c x.1 → InV H (φ x) ∧ Conn H d (φ x).1) (h2 : ∀ x y, InV G x → InV G y → Conn G c x.1 → Conn G c y.1 → SameR H (φ x) (φ y) → SameR G x y) :
  cntP (fun t => Conn G c (rhead G t)) (regs G).length ≤ cntP (fun t => Conn H d (rhead H t)) (regs H).length := by
 rw [regs_cls hG, regs_cls hH]
 have he : ∀ x : Nat × Nat, x.2 < 4 → endOf (4 * x.1 + x.2) = x := fun x hx => by
  unfold endOf
  exact Prod.ext (by simp; omega) (by simp; omega)
 refine cls_le (fun j => 4 * (φ (endOf j)).1 + (φ (endOf j)).2) (RegN.eqv hG) (RegN.eqv hH) (fun a ha hp => ?_) (fun a b ha hb hpa hpb hr => ?_) fun x y hx hy hr hp => ?_
 ·obtain ⟨k1, k2⟩ := h1 _ (endOf_inV hG ha) hp
  have := k1.1
  have := k1.2.1
  refine ⟨by omega, ?_⟩
  rw [show (4 * (φ (endOf a)).1 + (φ (endOf a)).2) / 4 = (φ (endOf a)).1 by omega]
  exact k2
 ·obtain ⟨k1, _⟩ := h1 _ (endOf_inV hG ha) hpa
  obtain ⟨l1, _⟩ := h1 _ (endOf_inV hG hb) hpb
  unfold RegN at hr
  rw [he _ k1.2.1, he _ l1.2.1] at hr
  exact h2 _ _ (endOf_inV hG ha) (endOf_inV hG hb) hpa hpb hr
 ·exact hp.trans (SameR.conn hH (endOf_inV hH hx) hr)
end Go.Proofs.Ytjlkndkedknocaa
namespace Go.Proofs.Ytjlkndkedknocaa
open Go Go.Ai
attribute [local instance] Classical.propDecidable
theorem oth_is {G : Dg} (hG : GoodG G) {x y : Nat × Nat} (hx : InV G x) (hy : InV G y) (hn : x ≠ y) (hX : G.X x.1 x.2 = G.X y.1 y.2) : oth G x = y := by
 have c1 := hG.cover x.1 x.2 hx.1 hx.2.1
 have c2 := hG.cover y.1 y.2 hy.1 hy.2.1
 rw [← hX] at c2
 unfold oth
 have hne : ¬ (x.1 = y.1 ∧ x.2 = y.2) := fun h => hn (Prod.ext h.1 h.2)
 split
 ·rename_i hc
  refine Prod.ext ?_ ?_ <;> simp only <;> omega
 ·rename_i hc
  refine Prod.ext ?_ ?_ <;> simp only <;> omega
def rot3 (x : Nat × Nat) : Nat × Nat := (x.1, (x.2 + 3) % 4)
theorem nxt_rot (G : Dg) (x : Nat × Nat) : nxt G x = rot3 (oth G x) := rfl
structure PlMap (G H : Dg) (κ : Nat → Nat) (φ : Nat × Nat → Nat × Nat) : Prop where
 into : ∀ x, InV G x → InV H (φ x) ∧ (φ x).1 = κ x.1
 oth : ∀ x, InV G x → φ (oth G x) = oth H (φ x)
 rot : ∀ x, InV G x → φ (rot3 x) = rot3 (φ x)
 inj : ∀ x y, InV G x → InV G y → φ x = φ y → x = y
 injK : ∀ a b, a < G.n → b < G.n → κ a = κ b → a = b
 onto : ∀ c q, c < G.n → q < 4 → ∃ p, p < 4 ∧ φ (c, p) = (κ c, q)
namespace PlMap
variable {G H : Dg} {κ : Nat → Nat} {φ : Nat × Nat → Nat × Nat} (h : PlMap G H κ φ) (hG : GoodG G) (hH : GoodG H)
include h hG hH
omit hH in
theorem orb {x : Nat × Nat} (hx : InV G x) : ∀ t, φ (orb G x t) = Go.Proofs.Ytjlkndkedknocaa.orb H (φ x) t := by
 intro t
 induction t with
 | zero => rfl
 | succ t ih =>
  have hv := orb_inV hG hx t
  have ho := (oth_spec hG hv).1
  simp only [Go.Proofs.Ytjlkndkedknocaa.orb]
  rw [nxt_rot, nxt_rot, h.rot _ ho, h.oth _ hv, ih]
omit hH in
theorem lt {c : Nat} (hc : c < G.n) : κ c < H.n := by
 have := h.into (c, 0) (hG.inV hc (by omega))
 rw [← this.2]
 exact this.1.1
omit hH in
theorem conn {c d : Nat} (hc : c < G.n) (k : Conn G c d) : Conn H (κ c) (κ d) := by
 induction k with
 | refl => exact .refl _
 | @step b q hb hq ih =>
  have hbl := hb.lt hG hc
  have hv := hG.inV (x := (b, q)) hbl hq
  obtain ⟨z1, z2⟩ := h.into _ hv
  have e := h.oth _ hv
  have o := oth_spec hG hv
  have z3 := (h.into _ o.1).2
  rw [← z3, e]
  have := ih.step (φ (b, q)).2 z1.2.1
  simp only at z2
  rwa [show (κ b, (φ (b, q)).2) = φ (b, q) from Prod.ext z2.symm rfl] at this
omit hH in
theorem back {c : Nat} (hc : c < G.n) {d : Nat} (k : Conn H (κ c) d) : ∃ a, a < G.n ∧ Conn G c a ∧ κ a = d := by
 induction k with
 | refl => exact ⟨c, hc, .refl _, rfl⟩
 | @step b q hb hq ih =>
  obtain ⟨a, ha, hca, rfl⟩ := ih
  obtain ⟨p, hp, hpe⟩ := h.onto a q ha hq
  have hv := hG.inV (x := (a, p)) ha hp
  have o := oth_spec hG hv
  refine ⟨(Go.Proofs.Ytjlkndkedknocaa.oth G (a, p)).1, o.1.1, hca.step p hp, ?_⟩
  rw [← (h.into _ o.1).2, h.oth _ hv, hpe]
omit hH in
theorem backP {c : Nat} (hc : c < G.n) {y : Nat × Nat} (hy : InV H y) (k : Conn H (κ c) y.1) : ∃ x, InV G x ∧ Conn G c x.1 ∧ φ x = y := by
 obtain ⟨a, ha, hca, he⟩ := h.back hG hc k
 obtain ⟨p, hp, hpe⟩ := h.onto a y.2 ha hy.2.1
 refine ⟨(a, p), hG.inV ha hp, hca, ?_⟩
 rw [hpe, he]
theorem plan {c : Nat} (hc : c < G.n) : cntP (fun t => Conn G c (rhead G t)) (regs G).length = cntP (fun t => Conn H (κ c) (rhead H t)) (regs H).length ∧ cntP (fun i => Conn G c i) G.n = cntP (fun i => Conn H (κ c) i) H.n := by
 have hd := h.lt hG hc
 have hex : ∀ y, ∃ x, InV H y → Conn H (κ c) y.1 → InV G x ∧ Conn G c x.1 ∧ φ x = y := fun y => by
  by_cases hy : InV H y ∧ Conn H (κ c) y.1
  ·obtain ⟨x, hx⟩ := h.backP hG hc hy.1 hy.2
   exact ⟨x, fun _ _ => hx⟩
  ·exact ⟨(0, 0), fun a b => absurd ⟨a, b⟩ hy⟩
 have hexK : ∀ d, ∃ a, Conn H (κ c) d → a < G.n ∧ Conn G c a ∧ κ a = d := fun d => by
  by_cases hy : Conn H (κ c) d
  ·obtain ⟨x, hx⟩ := h.back hG hc hy
   exact ⟨x, fun _ => hx⟩
  ·exact ⟨0, fun a => absurd a hy⟩
 constructor
 ·refine Nat.le_antisymm (regs_le hG hH φ hc hd (fun x hx k => ⟨(h.into x hx).1, by rw [(h.into x hx).2]; exact h.conn hG hc k⟩) fun x y hx hy _ _ hs => ?_) (regs_le hH hG (fun y => (hex y).choose) hd hc (fun y hy k => ?_) fun x y hx hy kx ky hs => ?_)
  ·obtain ⟨t, ht⟩ := hs
   rw [← h.orb hG hx] at ht
   exact ⟨t, h.inj _ _ (orb_inV hG hx t) hy ht⟩
  ·obtain ⟨z1, z2, _⟩ := (hex y).choose_spec hy k
   exact ⟨z1, z2⟩
  ·obtain ⟨z1, _, z3⟩ := (hex x).choose_spec hx kx
   obtain ⟨w1, _, w3⟩ := (hex y).choose_spec hy ky
   obtain ⟨t, ht⟩ := hs
   refine ⟨t, ?_⟩
   rw [← z3, ← h.orb hG z1, ht, w3]
 ·refine Nat.le_antisymm (cnt_inj κ (fun a ha k => ⟨h.lt hG ha, h.conn hG hc k⟩) fun a b ha hb _ _ e => h.injK a b ha hb e) (cnt_inj (fun d => (hexK d).choose) (fun a ha k => ?_) fun a b ha hb ka kb e => ?_)
  ·obtain ⟨z1, z2, _⟩ := (hexK a).choose_spec k
   exact ⟨z1, z2⟩
  ·obtain ⟨_, _, z3⟩ := (hexK a).choose_spec ka
   obtain ⟨_, _, w3⟩ := (hexK b).choose_spec kb
   have e : (hexK a).choose = (hexK b).choose := e
   rw [← z3, e, w3]
end PlMap
def PlanAt (G : Dg) (c : Nat) : Prop := cntP (fun t => Conn G c (rhead G t)) (regs G).length = 2 + cntP (fun i => Conn G c i) G.n
theorem PlMap.at_ {G H : Dg} {κ : Nat → Nat} {φ : Nat × Nat → Nat × Nat} (h : PlMap G H κ φ) (hG : GoodG G) (hH : GoodG H) {c : Nat} (hc : c < G.n) : PlanAt G c ↔ PlanAt H (κ c) := by
 unfold PlanAt
 obtain ⟨h1, h2⟩ := h.plan hG hH hc
 rw [h1, h2]
end Go.Proofs.Ytjlkndkedknocaa
namespace Go.Ai
attribute [local instance] Classical.propDecidable
def jn (r : Nat → Nat) (a b : Nat) : Nat → Nat := fun i => if r i = max (r a) (r b) then min (r a) (r b) else r i
structure Rep (r : Nat → Nat) : Prop where
 le : ∀ i, r i ≤ i
 idem : ∀ i, r (r i) = r i
theorem jn_cases (r : Nat → Nat) (a b i : Nat) : (r i = max (r a) (r b) ∧ jn r a b i = min (r a) (r b)) ∨ (r i ≠ max (r a) (r b) ∧ jn r a b i = r i) := by
 unfold jn
 by_cases h : r i = max (r a) (r b)
 ·exact .inl ⟨h, if_pos h⟩
 ·exact .inr ⟨h, if_neg h⟩
theorem jn_ends (r : Nat → Nat) (a b : Nat) : (max (r a) (r b) = r a ∧ min (r a) (r b) = r b) ∨ (max (r a) (r b) = r b ∧ min (r a) (r b) = r a) := by omega
theorem Rep.jn {r : Nat → Nat} (h : Rep r) (a b : Nat) : Rep (jn r a b) := by
 have hm : r (min (r a) (r b)) = min (r a) (r b) := by
  rcases jn_ends r a b with ⟨_, e⟩ | ⟨_, e⟩
  ·rw [e]; exact h.idem b
  ·rw [e]; exact h.idem a
 refine ⟨fun i => ?_, fun i => ?_⟩
 ·have := h.le i
  rcases jn_cases r a b i with ⟨h1, h2⟩ | ⟨h1, h2⟩ <;> omega
 ·rcases jn_cases r a b i with ⟨h1, h2⟩ | ⟨h1, h2⟩
  ·rw [h2]
   rcases jn_cases r a b (min (r a) (r b)) with ⟨h3, h4⟩ | ⟨h3, h4⟩
   ·exact h4
   ·rw [h4]; exact hm
  ·rw [h2]
   rcases jn_cases r a b (r i) with ⟨h3, h4⟩ | ⟨h3, h4⟩
   ·rw [h.idem i] at h3; exact absurd h3 h1
   ·rw [h4]; exact h.idem i
theorem jn_eq (r : Nat → Nat) (a b : Nat) : jn r a b a = jn r a b b := by
 rcases jn_cases r a b a with ⟨h1, h2⟩ | ⟨h1, h2⟩ <;> rcases jn_cases r a b b with ⟨h3, h4⟩ | ⟨h3, h4⟩ <;> omega
theorem jn_mono {r : Nat → Nat} {a b i j : Nat} (h : r i = r j) : jn r a b i = jn r a b j := by unfold jn; rw [h]
theorem jn_const {α : Type} {f : Nat → α} {r : Nat → Nat} {a b : Nat} (h : ∀ i, f (r i) = f i) (e : f a = f b) (i : Nat) : f (jn r a b i) = f i := by
 rcases jn_cases r a b i with ⟨h1, h2⟩ | ⟨h1, h2⟩
 ·rw [h2, ← h i, h1]
  rcases jn_ends r a b with ⟨e1, e2⟩ | ⟨e1, e2⟩
  ·rw [e1, e2, h a, h b, e]
  ·rw [e1, e2, h a, h b, e]
 ·rw [h2, h i]
def archR (X : Nat → Nat → Nat) : Nat → Nat → Nat
 | 0 => fun i => i
 | c + 1 => jn (archR X c) (X c 1) (X c 3)
theorem archR_rep (X : Nat → Nat → Nat) : ∀ k, Rep (archR X k) := by
 intro k
 induction k with
 | zero => exact ⟨fun i => Nat.le_refl _, fun i => rfl⟩
 | succ k ih => exact ih.jn _ _
theorem archR_eq (X : Nat → Nat → Nat) : ∀ k c, c < k → archR X k (X c 1) = archR X k (X c 3) := by
 intro k
 induction k with
 | zero => intro c h; omega
 | succ k ih =>
  intro c h
  rcases Nat.lt_or_ge c k with h1 | h1
  ·exact jn_mono (ih c h1)
  ·have : c = k := by omega
   subst this
   exact jn_eq _ _ _
theorem archR_const {α : Type} {f : Nat → α} {X : Nat → Nat → Nat} : ∀ k, (∀ c, c < k → f (X c 1) = f (X c 3)) → ∀ i, f (archR X k i) = f i := by
 intro k
 induction k with
 | zero => intro _ i; rfl
 | succ k ih => intro h i; exact jn_const (fun i => ih (fun c hc => h c (by omega)) i) (h k (by omega)) i
noncomputable def cntR (r : Nat → Nat) (i : Nat) : Nat := cntP (fun b => r b = b) i
theorem cntR_succ (r : Nat → Nat) (i : Nat) : cntR r (i + 1) = if r i = i then cntR r i + 1 else cntR r i := by
 unfold cntR
 simp only [cntP]
 split <;> rfl
structure UF (r : Nat → Nat) (N : Nat) (up : List Int) : Prop where
 rep : Rep r
 len : up.length = N
 at_ : ∀ i, i < N → ∃ u : Nat, nth up i = u ∧ u ≤ i ∧ r u = r i ∧ (u = i ↔ r i = i)
theorem UF.join {r : Nat → Nat} {N a b : Nat} {up : List Int} (h : UF r N up) (ha : a < N) (hb : b < N) : UF (jn r a b) N (up.set (max (r a) (r b)) ((min (r a) (r b) : Nat) : Int)) := by
 have hM : max (r a) (r b) < up.length := by
  have h1 := h.rep.le a
  have h2 := h.rep.le b
  have h3 := h.len
  omega
 refine ⟨h.rep.jn a b, by simp [h.len], fun i hi => ?_⟩
 have hRM : r (max (r a) (r b)) = max (r a) (r b) := by
  rcases jn_ends r a b with ⟨e, _⟩ | ⟨e, _⟩
  ·rw [e]; exact h.rep.idem a
  ·rw [e]; exact h.rep.idem b
 have hRm : r (min (r a) (r b)) = min (r a) (r b) := by
  rcases jn_ends r a b with ⟨_, e⟩ | ⟨_, e⟩
  ·rw [e]; exact h.rep.idem b
  ·rw [e]; exact h.rep.idem a
 rw [nth_set hM]
 by_cases e : i = max (r a) (r b)
 ·rw [if_pos e]
  refine ⟨_, rfl, by omega, ?_, ?_⟩
  ·have h1 := jn_cases r a b i
   have h2 := jn_cases r a b (min (r a) (r b))
   rw [e] at h1 ⊢
   rw [hRM] at h1
   rw [hRm] at h2
   omega
  ·have h1 := jn_cases r a b i
   rw [e] at h1 ⊢
   rw [hRM] at h1
   omega
 ·rw [if_neg e]
  obtain ⟨u, h1, h2, h3, h4⟩ := h.at_ i hi
  refine ⟨u, h1, h2, jn_mono h3, ?_⟩
  rcases jn_cases r a b i with ⟨h5, h6⟩ | ⟨h5, h6⟩
  ·have := h.rep.le i
   rw [h6]
   constructor
   ·intro hu
    have := h4.1 hu
    omega
   ·intro hm
    omega
  ·rw [h6]; exact h4
end Go.Ai
namespace Go.Ai
attribute [local instance] Classical.propDecidable
theorem jn_same {r : Nat → Nat} {a b : Nat} (h : r a = r b) : jn r a b = r := by
 funext i
 unfold jn
 rw [h, Nat.max_self, Nat.min_self]
 split
 ·rename_i e; exact e.symm
 ·rfl
theorem jn_cnt {r : Nat → Nat} (hr : Rep r) {a b N : Nat} (ha : a < N) (hb : b < N) : (r a = r b → cntR (jn r a b) N = cntR r N) ∧ (r a ≠ r b → cntR (jn r a b) N + 1 = cntR r N) := by
 refine ⟨fun h => by rw [jn_same h], fun h => ?_⟩
 ·have la := hr.le a
  have lb := hr.le b
  have hroot : r (max (r a) (r b)) = max (r a) (r b) := by
   rcases jn_ends r a b with ⟨e, _⟩ | ⟨e, _⟩
   ·rw [e]; exact hr.idem a
   ·rw [e]; exact hr.idem b
  have hroot2 : r (min (r a) (r b)) = min (r a) (r b) := by
   rcases jn_ends r a b with ⟨_, e⟩ | ⟨_, e⟩
   ·rw [e]; exact hr.idem b
   ·rw [e]; exact hr.idem a
  unfold cntR
  rw [← cnt_remove (q := fun i => r i = i) hroot (show max (r a) (r b) < N by omega)]
  congr 1
  refine cntP_congr fun i hi => ?_
  rcases jn_cases r a b i with ⟨h1, h2⟩ | ⟨h1, h2⟩
  ·rw [h2]
   constructor
   ·intro e
    rw [← e, hroot2] at h1
    omega
   ·rintro ⟨e1, e2⟩; rw [h1] at e1; exact absurd e1.symm e2
  ·rw [h2]
   constructor
   ·intro e; exact ⟨e, fun e2 => h1 (by rw [e, e2])⟩
   ·intro e; exact e.1
end Go.Ai
namespace Go.Proofs.Ytjlkndkedknocaa
open Go Go.Ai
attribute [local instance] Classical.propDecidable
def bP (G : Dg) (a : Nat) : Nat × Nat := (G.T a 0, G.T a 1)
def eP (G : Dg) (a : Nat) : Nat × Nat := (G.T a 2, G.T a 3)
theorem bP_in {G : Dg} (hG : GoodG G) {a : Nat} (ha : a < 2 * G.n) : InV G (bP G a) ∧ G.X (bP G a).1 (bP G a).2 = a := by
 obtain ⟨t0, t1, t2, t3, t4, t5, t6⟩ := hG.T a ha
 exact ⟨hG.inV t0 t1, t4⟩
theorem eP_in {G : Dg} (hG : GoodG G) {a : Nat} (ha : a < 2 * G.n) : InV G (eP G a) ∧ G.X (eP G a).1 (eP G a).2 = a := by
 obtain ⟨t0, t1, t2, t3, t4, t5, t6⟩ := hG.T a ha
 exact ⟨hG.inV t2 t3, t5⟩
theorem at_be {G : Dg} (hG : GoodG G) {x : Nat × Nat} (hx : InV G x) : x = bP G (G.X x.1 x.2) ∨ x = eP G (G.X x.1 x.2) := by
 rcases hG.cover x.1 x.2 hx.1 hx.2.1 with ⟨h1, h2⟩ | ⟨h1, h2⟩
 ·exact .inl (Prod.ext h1 h2)
 ·exact .inr (Prod.ext h1 h2)
theorem be_ne {G : Dg} (hG : GoodG G) {a : Nat} (ha : a < 2 * G.n) : bP G a ≠ eP G a := fun e => by
 obtain ⟨t0, t1, t2, t3, t4, t5, t6⟩ := hG.T a ha
 exact t6 ⟨congrArg Prod.fst e, congrArg Prod.snd e⟩
theorem oth_b {G : Dg} (hG : GoodG G) {a : Nat} (ha : a < 2 * G.n) : oth G (bP G a) = eP G a :=
 oth_is hG (bP_in hG ha).1 (eP_in hG ha).1 (be_ne hG ha) (by rw [(bP_in hG ha).2, (eP_in hG ha).2])
theorem oth_e {G : Dg} (hG : GoodG G) {a : Nat} (ha : a < 2 * G.n) : oth G (eP G a) = bP G a :=
 oth_is hG (eP_in hG ha).1 (bP_in hG ha).1 (be_ne hG ha).symm (by rw [(bP_in hG ha).2, (eP_in hG ha).2])
def rK (G : Dg) : Nat → Nat → Nat
 | 0 => fun i => i
 | k + 1 => jn (rK G k) (bP G k).1 (eP G k).1
theorem rK_rep (G : Dg) : ∀ k, Rep (rK G k) := by
 intro k
 induction k with
 | zero => exact ⟨fun i => Nat.le_refl _, fun i => rfl⟩
 | succ k ih => exact ih.jn _ _
def inF (G : Dg) (k : Nat) : Prop := rK G k (bP G k).1 ≠ rK G k (eP G k).1
theorem rK_cnt {G : Dg} (hG : GoodG G) : ∀ k, k ≤ 2 * G.n → cntR (rK G k) G.n + cntP (inF G) k = G.n := by
 intro k
 induction k with
 | zero => intro _; simp only [cntP, Nat.add_zero]; unfold cntR rK; exact cntP_all fun i _ => rfl
 | succ k ih =>
  intro hk
  have h1 := ih (by omega)
  have h2 := jn_cnt (rK_rep G k) (N := G.n) (bP_in hG (show k < 2 * G.n by omega)).1.1 (eP_in hG (show k < 2 * G.n by omega)).1.1
  simp only [cntP, rK]
  by_cases hF : inF G k
  ·have := h2.2 hF
   rw [if_pos hF]; omega
  ·have := h2.1 (Classical.not_not.1 hF)
   rw [if_neg hF]; omega
theorem rK_mono {G : Dg} {k m i j : Nat} (h : k ≤ m) (e : rK G k i = rK G k j) : rK G m i = rK G m j := by
 induction h with
 | refl => exact e
 | step _ ih => exact jn_mono ih
theorem rK_conn {G : Dg} (hG : GoodG G) : ∀ k, k ≤ 2 * G.n → ∀ i, i < G.n → rK G k i < G.n ∧ Conn G i (rK G k i) := by
 intro k
 induction k with
 | zero => intro _ i hi; exact ⟨hi, .refl _⟩
 | succ k ih =>
  intro hk i hi
  have ih' := ih (by omega)
  have hb := (bP_in hG (show k < 2 * G.n by omega)).1
  have he := (eP_in hG (show k < 2 * G.n by omega)).1
  have hbe : Conn G (bP G k).1 (eP G k).1 := by
   have := (Conn.refl (G := G) (bP G k).1).step (bP G k).2 hb.2.1
   rwa [show ((bP G k).1, (bP G k).2) = bP G k from rfl, oth_b hG (by omega)] at this
  have c1 := (ih' _ hb.1)
  have c2 := (ih' _ he.1)
  have cb : Conn G (rK G k (bP G k).1) (rK G k (eP G k).1) := ((c1.2.symm hG hb.1).trans hbe).trans c2.2
  simp only [rK]
  rcases jn_cases (rK G k) (bP G k).1 (eP G k).1 i with ⟨h1, h2⟩ | ⟨h1, h2⟩
  ·rw [h2]
   have ci := (ih' i hi).2
   rw [h1] at ci
   rcases jn_ends (rK G k) (bP G k).1 (eP G k).1 with ⟨e1, e2⟩ | ⟨e1, e2⟩
   ·rw [e2]; rw [e1] at ci; exact ⟨c2.1, ci.trans cb⟩
   ·rw [e2]; rw [e1] at ci; exact ⟨c1.1, ci.trans (cb.symm hG c1.1)⟩
  ·rw [h2]; exact ih' i hi
theorem rK_iff {G : Dg} (hG : GoodG G) {i j : Nat} (hi : i < G.n) (hj : j < G.n) : rK G (2 * G.n) i = rK G (2 * G.n) j ↔ Conn G i j := by
 constructor
 ·intro e
  have h1 := rK_conn hG (2 * G.n) (Nat.le_refl _) i hi
  have h2 := rK_conn hG (2 * G.n) (Nat.le_refl _) j hj
  rw [← e] at h2
  exact h1.2.trans (h2.2.symm hG hj)
 ·intro h
  induction h with
  | refl => rfl
  | @step b q hb hq ih =>
   have hbl := hb.lt hG hi
   rw [ih hbl]
   have hv := hG.inV (x := (b, q)) hbl hq
   have hk : rK G (G.X b q + 1) (bP G (G.X b q)).1 = rK G (G.X b q + 1) (eP G (G.X b q)).1 := jn_eq _ _ _
   have hm := rK_mono (m := 2 * G.n) (by have := hv.2.2; simp only at this; omega) hk
   have ha : G.X b q < 2 * G.n := hv.2.2
   rcases at_be hG hv with e | e
   ·simp only at e
    have eo := oth_b hG ha
    rw [← e] at hm eo
    rw [eo]; exact hm
   ·simp only at e
    have eo := oth_e hG ha
    rw [← e] at hm eo
    rw [eo]; exact hm.symm
theorem forest {G : Dg} (hG : GoodG G) {sat : Nat → Prop} {c0 : Nat} (h1 : ∀ a, a < 2 * G.n → ¬ inF G a → sat a) (h2 : ∀ c q, c < G.n → c ≠ c0 → q < 4 → (∀ q', q' < 4 → q' ≠ q → sat (G.X c q')) → sat (G.X c q)) : ∀ a, a < 2 * G.n → sat a := by
 have key : ∀ k, k ≤ 2 * G.n → ∀ (w : Nat) (x0 : Nat × Nat), (∀ c, c < G.n → rK G k c = w → c ≠ c0) → InV G x0 → rK G k x0.1 = w → (∀ x, InV G x → rK G k x.1 = w → x ≠ x0 → k ≤ G.X x.1 x.2 → sat (G.X x.1 x.2)) → k ≤ G.X x0.1 x0.2 → sat (G.X x0.1 x0.2) := by
  intro k
  induction k with
  | zero =>
   intro _ w x0 hc hx hw hs _
   refine h2 x0.1 x0.2 hx.1 (hc _ hx.1 hw) hx.2.1 fun q' hq' hne => ?_
   exact hs (x0.1, q') (hG.inV hx.1 hq') hw (fun e => hne (congrArg Prod.snd e)) (Nat.zero_le _)
  | succ k ih =>
   intro hk w x0 hc hx hw hs hkx
   have hkl : k < 2 * G.n := by omega
   have ih' := ih (by omega)
   by_cases hF : inF G k
   ·obtain ⟨hb, hbX⟩ := bP_in hG hkl
    obtain ⟨he, heX⟩ := eP_in hG hkl
    have hup : ∀ i j, rK G k i = rK G k j → rK G (k + 1) i = rK G (k + 1) j := fun i j => rK_mono (Nat.le_succ k)
    have hbe : rK G (k + 1) (bP G k).1 = rK G (k + 1) (eP G k).1 := jn_eq _ _ _
    have onk : ∀ x, InV G x → G.X x.1 x.2 = k → x = bP G k ∨ x = eP G k := fun x hv e => by
     have := at_be hG hv
     rwa [e] at this
    by_cases wb : rK G k x0.1 = rK G k (bP G k).1
    ·have we : ∀ i, rK G k i = rK G k (eP G k).1 → rK G (k + 1) i = w := fun i e => by rw [hup _ _ e, ← hbe, ← hup _ _ wb, hw]
     have hsk : sat k := by
      have := ih' (rK G k (eP G k).1) (eP G k) (fun c hcl e => hc c hcl (we c e)) he rfl (fun x hv ew hne hkx' => ?_) (by rw [heX]; exact Nat.le_refl _)
      ·rwa [heX] at this
      ·have hnk : G.X x.1 x.2 ≠ k := fun e => by
        rcases onk x hv e with rfl | rfl
        ·exact hF ew
        ·exact hne rfl
       exact hs x hv (we _ ew) (fun e => hF (by rw [← wb, ← e]; exact ew)) (by omega)
     refine ih' _ x0 (fun c hcl e => hc c hcl (by rw [hup _ _ e, hw])) hx rfl (fun x hv ew hne hkx' => ?_) (by omega)
     by_cases e : G.X x.1 x.2 = k
     ·rw [e]; exact hsk
     ·exact hs x hv (by rw [hup _ _ ew, hw]) hne (by omega)
    ·by_cases we' : rK G k x0.1 = rK G k (eP G k).1
     ·have we : ∀ i, rK G k i = rK G k (bP G k).1 → rK G (k + 1) i = w := fun i e => by rw [hup _ _ e, hbe, ← hup _ _ we', hw]
      have hsk : sat k := by
       have := ih' (rK G k (bP G k).1) (bP G k) (fun c hcl e => hc c hcl (we c e)) hb rfl (fun x hv ew hne hkx' => ?_) (by rw [hbX]; exact Nat.le_refl _)
       ·rwa [hbX] at this
       ·have hnk : G.X x.1 x.2 ≠ k := fun e => by
         rcases onk x hv e with rfl | rfl
         ·exact hne rfl
         ·exact hF ew.symm
        exact hs x hv (we _ ew) (fun e => wb (by rw [← e]; exact ew)) (by omega)
      refine ih' _ x0 (fun c hcl e => hc c hcl (by rw [hup _ _ e, hw])) hx rfl (fun x hv ew hne hkx' => ?_) (by omega)
      by_cases e : G.X x.1 x.2 = k
      ·rw [e]; exact hsk
      ·exact hs x hv (by rw [hup _ _ ew, hw]) hne (by omega)
     ·refine ih' _ x0 (fun c hcl e => hc c hcl (by rw [hup _ _ e, hw])) hx rfl (fun x hv ew hne hkx' => ?_) (by omega)
      by_cases e : G.X x.1 x.2 = k
      ·rcases onk x hv e with rfl | rfl
       ·exact absurd ew.symm wb
       ·exact absurd ew.symm we'
      ·exact hs x hv (by rw [hup _ _ ew, hw]) hne (by omega)
   ·have hsame : rK G (k + 1) = rK G k := jn_same (Classical.not_not.1 hF)
    rw [hsame] at hc hw hs
    refine ih' w x0 hc hx hw (fun x hv ew hne hkx' => ?_) (by omega)
    by_cases e : G.X x.1 x.2 = k
    ·rw [e]; exact h1 k hkl hF
    ·exact hs x hv ew hne (by omega)
 have down : ∀ m, m ≤ 2 * G.n → ∀ a, 2 * G.n - m ≤ a → a < 2 * G.n → sat a := by
  intro m
  induction m with
  | zero => intro _ a h3 h4; omega
  | succ m ih =>
   intro hm a h3 h4
   by_cases hlt : 2 * G.n - m ≤ a
   ·exact ih (by omega) a hlt h4
   ·by_cases hF : inF G a
    ·obtain ⟨hb, hbX⟩ := bP_in hG h4
     obtain ⟨he, heX⟩ := eP_in hG h4
     have onk : ∀ x, InV G x → G.X x.1 x.2 = a → x = bP G a ∨ x = eP G a := fun x hv e => by
      have := at_be hG hv
      rwa [e] at this
     have big : ∀ x, InV G x → a ≤ G.X x.1 x.2 → G.X x.1 x.2 ≠ a → sat (G.X x.1 x.2) := fun x hv h5 h6 => ih (by omega) _ (by omega) hv.2.2
     by_cases hc0 : rK G a c0 = rK G a (bP G a).1
     ·have := key a (by omega) (rK G a (eP G a).1) (eP G a) (fun c _ e hcc => hF (by rw [← hc0, ← hcc]; exact e)) he rfl (fun x hv ew hne hx => big x hv hx fun e => ?_) (by rw [heX]; exact Nat.le_refl _)
      ·rwa [heX] at this
      ·rcases onk x hv e with rfl | rfl
       ·exact hF ew
       ·exact hne rfl
     ·have := key a (by omega) (rK G a (bP G a).1) (bP G a) (fun c _ e hcc => hc0 (by rw [← hcc]; exact e)) hb rfl (fun x hv ew hne hx => big x hv hx fun e => ?_) (by rw [hbX]; exact Nat.le_refl _)
      ·rwa [hbX] at this
      ·rcases onk x hv e with rfl | rfl
       ·exact hne rfl
       ·exact hF ew.symm
    ·exact h1 a h4 hF
 exact fun a ha => down (2 * G.n) (Nat.le_refl _) a (by omega) ha
end Go.Proofs.Ytjlkndkedknocaa
namespace Go.Ai
attribute [local instance] Classical.propDecidable
theorem cnt_split (p q : Nat → Prop) : ∀ n, cntP p n = cntP (fun i => p i ∧ q i) n + cntP (fun i => p i ∧ ¬ q i) n := by
 intro n
 induction n with
 | zero => rfl
 | succ n ih =>
  simp only [cntP]
  by_cases hp : p n
  ·by_cases hq : q n
   ·rw [if_pos hp, if_pos ⟨hp, hq⟩, if_neg (fun h => h.2 hq)]; omega
   ·rw [if_pos hp, if_neg (fun h => hq h.2), if_pos ⟨hp, hq⟩]; omega
  ·rw [if_neg hp, if_neg (fun h => hp h.1), if_neg (fun h => hp h.1)]; omega
theorem cnt_not (p : Nat → Prop) : ∀ n, cntP p n + cntP (fun i => ¬ p i) n = n := by
 intro n
 induction n with
 | zero => rfl
 | succ n ih =>
  simp only [cntP]
  by_cases hp : p n
  ·rw [if_pos hp, if_neg (fun h => h hp)]; omega
  ·rw [if_neg hp, if_pos hp]; omega
theorem cnt_full {p q : Nat → Prop} {n : Nat} (h : cntP p n ≤ cntP (fun i => p i ∧ q i) n) {i : Nat} (hi : i < n) (hp : p i) : q i := by
 refine Classical.not_not.1 fun hq => ?_
 have h1 := cnt_split p q n
 have h2 : 0 < cntP (fun i => p i ∧ ¬ q i) n := cntP_pos hi ⟨hp, hq⟩
 omega
class Gp (M : Type) extends Mul M where
 e : M
 inv : M → M
 assoc : ∀ a b c : M, a * b * c = a * (b * c)
 e_mul : ∀ a : M, e * a = a
 mul_e : ∀ a : M, a * e = a
 inv_mul : ∀ a : M, inv a * a = e
 mul_inv : ∀ a : M, a * inv a = e
namespace Gp
variable {M : Type} [Gp M]
theorem cancelL {a b c : M} (h : a * b = a * c) : b = c := by
 have := congrArg (inv a * ·) h
 simpa only [← assoc, inv_mul, e_mul] using this
theorem cancelR {a b c : M} (h : b * a = c * a) : b = c := by
 have := congrArg (· * inv a) h
 simpa only [assoc, mul_inv, mul_e] using this
theorem eq_mul_inv {a b c : M} : a = b * inv c ↔ a * c = b := by
 constructor
 ·rintro rfl; rw [assoc, inv_mul, mul_e]
 ·rintro rfl; rw [assoc, mul_inv, mul_e]
end Gp
end Go.Ai
namespace Go.Proofs.Ytjlkndkedknocaa
open Go Go.Ai
attribute [local instance] Classical.propDecidable
def idP (x : Nat × Nat) : Nat := 4 * x.1 + x.2
theorem idP_lt {G : Dg} {x : Nat × Nat} (hx : InV G x) : idP x < 4 * G.n := by have := hx.1; have := hx.2.1; unfold idP; omega
theorem endOf_id {x : Nat × Nat} (hx : x.2 < 4) : endOf (idP x) = x := by
 unfold endOf idP
 exact Prod.ext (by simp; omega) (by simp; omega)
theorem id_endOf (j : Nat) : idP (endOf j) = j := by unfold endOf idP; simp; omega
theorem least_reg {G : Dg} (j : Nat) : ∃ m, (SameR G (endOf m) (endOf j)) ∧ ∀ k, k < m → ¬ SameR G (endOf k) (endOf j) := leastP (P := fun m => SameR G (endOf m) (endOf j)) ⟨j, .refl _ _⟩
noncomputable def rR0 (G : Dg) (j : Nat) : Nat := if j < 4 * G.n then (least_reg (G := G) j).choose else j
section
variable {G : Dg} (hG : GoodG G)
theorem rR0_le (j : Nat) : rR0 G j ≤ j := by
 unfold rR0
 split
 ·obtain ⟨_, h2⟩ := (least_reg (G := G) j).choose_spec
  rcases Nat.lt_or_ge j (least_reg (G := G) j).choose with h | h
  ·exact absurd (.refl _ _) (h2 j h)
  ·exact h
 ·exact Nat.le_refl _
theorem rR0_same {j : Nat} (hj : j < 4 * G.n) : SameR G (endOf (rR0 G j)) (endOf j) ∧ ∀ k, k < rR0 G j → ¬ SameR G (endOf k) (endOf j) := by
 unfold rR0
 rw [if_pos hj]
 exact (least_reg (G := G) j).choose_spec
include hG
theorem rR0_iff {i j : Nat} (hi : i < 4 * G.n) (hj : j < 4 * G.n) : rR0 G i = rR0 G j ↔ RegN G i j := by
 obtain ⟨a1, a2⟩ := rR0_same hi
 obtain ⟨b1, b2⟩ := rR0_same hj
 have li := rR0_le (G := G) i
 have lj := rR0_le (G := G) j
 have vi := endOf_inV hG (show rR0 G i < 4 * G.n by omega)
 have vj := endOf_inV hG (show rR0 G j < 4 * G.n by omega)
 constructor
 ·intro e
  rw [← e] at b1
  exact (a1.symm hG vi).trans b1
 ·intro h
  rcases Nat.lt_trichotomy (rR0 G i) (rR0 G j) with hl | hl | hl
  ·exact absurd (a1.trans h) (b2 _ hl)
  ·exact hl
  ·exact absurd (b1.trans (SameR.symm hG (endOf_inV hG hi) h)) (a2 _ hl)
theorem rR0_rep : Rep (rR0 G) := by
 refine ⟨rR0_le, fun i => ?_⟩
 by_cases hi : i < 4 * G.n
 ·have := rR0_le (G := G) i
  exact (rR0_iff hG (by omega) hi).2 (rR0_same hi).1
 ·unfold rR0; rw [if_neg hi, if_neg hi]
theorem rR0_cnt : cntR (rR0 G) (4 * G.n) = (regs G).length := by
 have h := regs_cls hG fun _ => True
 rw [cntP_all fun _ _ => trivial] at h
 rw [h]
 unfold cntR clsP
 refine cntP_congr fun j hj => ?_
 obtain ⟨a1, a2⟩ := rR0_same hj
 have lj := rR0_le (G := G) j
 constructor
 ·intro e
  rw [e] at a2
  exact ⟨trivial, a2⟩
 ·rintro ⟨_, h2⟩
  rcases Nat.lt_or_ge (rR0 G j) j with hl | hl
  ·exact absurd a1 (h2 _ hl)
  ·omega
theorem regs_total (hP : PlanG G) : (regs G).length = G.n + 2 * cntR (rK G (2 * G.n)) G.n := by
 have key : ∀ m (U : Nat → Prop), (∀ a b, a < G.n → U a → Conn G a b → U b) → cntP U G.n = m → cntP (fun t => U (rhead G t)) (regs G).length = m + 2 * cntP (fun c => U c ∧ ∀ i, i < c → ¬ Conn G i c) G.n := by
  intro m
  induction m using Nat.strongRecOn with
  | ind m ih =>
   intro U hU hm
   by_cases hc : ∃ c, c < G.n ∧ U c
   ·obtain ⟨c, hc1, hc2⟩ := hc
    have s1 := cnt_split U (fun i => Conn G c i) G.n
    have s2 := cnt_split (fun t => U (rhead G t)) (fun t => Conn G c (rhead G t)) (regs G).length
    have s3 := cnt_split (fun d => U d ∧ ∀ i, i < d → ¬ Conn G i d) (fun i => Conn G c i) G.n
    have e1 : cntP (fun i => U i ∧ Conn G c i) G.n = cntP (fun i => Conn G c i) G.n := cntP_congr fun i _ => ⟨fun h => h.2, fun h => ⟨hU c i hc1 hc2 h, h⟩⟩
    have e2 : cntP (fun t => U (rhead G t) ∧ Conn G c (rhead G t)) (regs G).length = cntP (fun t => Conn G c (rhead G t)) (regs G).length := cntP_congr fun t _ => ⟨fun h => h.2, fun h => ⟨hU c _ hc1 hc2 h, h⟩⟩
    have p1 := hP c hc1
    have p2 : 0 < cntP (fun i => Conn G c i) G.n := cntP_pos hc1 (.refl c)
    have hi := ih (cntP (fun i => U i ∧ ¬ Conn G c i) G.n) (by omega) (fun i => U i ∧ ¬ Conn G c i) (fun a b ha h1 h2 => ⟨hU a b ha h1.1 h2, fun h3 => h1.2 (h3.trans (h2.symm hG ha))⟩) rfl
    have e3 : cntP (fun d => (U d ∧ ∀ i, i < d → ¬ Conn G i d) ∧ ¬ Conn G c d) G.n = cntP (fun d => (U d ∧ ¬ Conn G c d) ∧ ∀ i, i < d → ¬ Conn G i d) G.n := cntP_congr fun d _ => ⟨fun h => ⟨⟨h.1.1, h.2⟩, h.1.2⟩, fun h => ⟨⟨h.1.1, h.2⟩, h.1.2⟩⟩
    have e4 : cntP (fun d => (U d ∧ ∀ i, i < d → ¬ Conn G i d) ∧ Conn G c d) G.n = 1 := by
     obtain ⟨m0, h0, hl⟩ := leastP (P := fun m => Conn G m c) ⟨c, .refl c⟩
     have hm0 : m0 ≤ c := by
      rcases Nat.lt_or_ge c m0 with h | h
      ·exact absurd (.refl c) (hl c h)
      ·exact h
     have hq : (fun d => (U d ∧ ∀ i, i < d → ¬ Conn G i d) ∧ Conn G c d) m0 := by
      have hcm := h0.symm hG (by omega)
      exact ⟨⟨hU c m0 hc1 hc2 hcm, fun i hi hn => hl i hi (hn.trans h0)⟩, hcm⟩
     have hr := cnt_remove (q := fun d => (U d ∧ ∀ i, i < d → ¬ Conn G i d) ∧ Conn G c d) hq (show m0 < G.n by omega)
     rw [← hr, cntP_zero]
     rintro d hd ⟨⟨⟨_, k2⟩, k3⟩, k4⟩
     rcases Nat.lt_trichotomy d m0 with h | h | h
     ·exact hl d h (k3.symm hG hc1)
     ·exact k4 h
     ·exact k2 m0 h (h0.trans k3)
    rw [e3] at s3
    omega
   ·have hz : m = 0 := by
     rw [← hm]
     exact cntP_zero fun i hi h => hc ⟨i, hi, h⟩
    subst hz
    rw [cntP_zero, cntP_zero]
    ·intro i hi h; exact hc ⟨i, hi, h.1⟩
    ·intro t ht h; exact hc ⟨_, rhead_lt hG ht, h⟩
 have h := key G.n (fun _ => True) (fun _ _ _ _ _ => trivial) (cntP_all fun _ _ => trivial)
 rw [cntP_all fun _ _ => trivial] at h
 rw [h]
 congr 2
 unfold cntR
 refine cntP_congr fun c hc => ?_
 have hr := rK_rep G (2 * G.n)
 constructor
 ·rintro ⟨_, h2⟩
  have h3 := rK_conn hG (2 * G.n) (Nat.le_refl _) c hc
  rcases Nat.lt_or_ge (rK G (2 * G.n) c) c with hl | hl
  ·exact absurd (h3.2.symm hG hc) (h2 _ hl)
  ·have := hr.le c; omega
 ·intro e
  refine ⟨trivial, fun i hi hn => ?_⟩
  have := (rK_iff hG (by omega) hc).2 hn
  have := hr.le i
  omega
end
noncomputable def rR (G : Dg) : Nat → Nat → Nat
 | 0 => rR0 G
 | k + 1 => if inF G k then rR G k else jn (rR G k) (idP (bP G k)) (idP (eP G k))
section
variable {G : Dg} (hG : GoodG G)
theorem rR_mono {k m i j : Nat} (h : k ≤ m) (e : rR G k i = rR G k j) : rR G m i = rR G m j := by
 induction h with
 | refl => exact e
 | step _ ih =>
  simp only [rR]
  split
  ·exact ih
  ·exact jn_mono ih
theorem rR_be {k m : Nat} (h : k < m) (hF : ¬ inF G k) : rR G m (idP (bP G k)) = rR G m (idP (eP G k)) := by
 refine rR_mono (k := k + 1) h ?_
 simp only [rR]
 rw [if_neg hF]
 exact jn_eq _ _ _
include hG
theorem rR_rep : ∀ k, Rep (rR G k) := by
 intro k
 induction k with
 | zero => exact rR0_rep hG
 | succ k ih =>
  simp only [rR]
  split
  ·exact ih
  ·exact ih.jn _ _
theorem rR_cnt : ∀ k, k ≤ 2 * G.n → cntR (rR G k) (4 * G.n) + cntP (fun a => ¬ inF G a ∧ rR G a (idP (bP G a)) ≠ rR G a (idP (eP G a))) k = (regs G).length := by
 intro k
 induction k with
 | zero => intro _; simp only [cntP, Nat.add_zero, rR]; exact rR0_cnt hG
 | succ k ih =>
  intro hk
  have h1 := ih (by omega)
  have h2 := jn_cnt (rR_rep hG k) (N := 4 * G.n) (idP_lt (bP_in hG (show k < 2 * G.n by omega)).1) (idP_lt (eP_in hG (show k < 2 * G.n by omega)).1)
  simp only [cntP, rR]
  by_cases hF : inF G k
  ·rw [if_pos hF, if_neg (fun h => h.1 hF)]; omega
  ·rw [if_neg hF]
   by_cases hm : rR G k (idP (bP G k)) = rR G k (idP (eP G k))
   ·have := h2.1 hm
    rw [if_neg (fun h => h.2 hm)]; omega
   ·have := h2.2 hm
    rw [if_pos ⟨hF, hm⟩]; omega
theorem sides {x : Nat × Nat} (hx : InV G x) : InV G (rot3 x) ∧ ((outB (G.s x.1) x.2 = true ∧ x = bP G (G.X x.1 x.2) ∧ SameR G (eP G (G.X x.1 x.2)) (rot3 x)) ∨ (outB (G.s x.1) x.2 = false ∧ x = eP G (G.X x.1 x.2) ∧ SameR G (bP G (G.X x.1 x.2)) (rot3 x))) := by
 refine ⟨hG.inV hx.1 (Nat.mod_lt _ (by omega)), ?_⟩
 obtain ⟨c, q⟩ := x
 have ha := hx.2.2
 have hbe := at_be hG hx
 simp only at ha hbe ⊢
 obtain ⟨a, hae⟩ : ∃ a, a = G.X c q := ⟨_, rfl⟩
 rw [← hae] at ha hbe ⊢
 have hd := hG.dir _ ha
 rcases hbe with e | e
 ·have h1 : c = G.T a 0 := congrArg Prod.fst e
  have h2 : q = G.T a 1 := congrArg Prod.snd e
  refine .inl ⟨by rw [h1, h2]; exact hd.1, e, ⟨1, ?_⟩⟩
  simp only [orb]
  rw [nxt_rot, oth_e hG ha, ← e]
 ·have h1 : c = G.T a 2 := congrArg Prod.fst e
  have h2 : q = G.T a 3 := congrArg Prod.snd e
  refine .inr ⟨by rw [h1, h2]; exact hd.2, e, ⟨1, ?_⟩⟩
  simp only [orb]
  rw [nxt_rot, oth_b hG ha, ← e]
omit hG in
theorem corner4 {f : Nat → Nat} {q : Nat} (hq : q < 4) (h : ∀ q', q' < 4 → q' ≠ q → f q' = f ((q' + 3) % 4)) : f q = f ((q + 3) % 4) := by
 match q, hq with
 | 0, _ => have h1 := h 1 (by omega) (by omega); have h2 := h 2 (by omega) (by omega); have h3 := h 3 (by omega) (by omega); simp only [Nat.reduceAdd, Nat.reduceMod] at *; rw [h3, h2, h1]
 | 1, _ => have h1 := h 0 (by omega) (by omega); have h2 := h 2 (by omega) (by omega); have h3 := h 3 (by omega) (by omega); simp only [Nat.reduceAdd, Nat.reduceMod] at *; rw [h1, h3, h2]
 | 2, _ => have h1 := h 0 (by omega) (by omega); have h2 := h 1 (by omega) (by omega); have h3 := h 3 (by omega) (by omega); simp only [Nat.reduceAdd, Nat.reduceMod] at *; rw [h2, h1, h3]
 | 3, _ => have h1 := h 0 (by omega) (by omega); have h2 := h 1 (by omega) (by omega); have h3 := h 2 (by omega) (by omega); simp only [Nat.reduceAdd, Nat.reduceMod] at *; rw [h3, h2, h1]
theorem dual_conn {i j : Nat} (hi : i < 4 * G.n) (hj : j < 4 * G.n) (hc : Conn G (i / 4) (j / 4)) : rR G (2 * G.n) i = rR G (2 * G.n) j := by
 obtain ⟨r, hr⟩ : ∃ r, r = rR G (2 * G.n) := ⟨_, rfl⟩
 have hreg : ∀ x y, InV G x → InV G y → SameR G x y → r (idP x) = r (idP y) := fun x y hx hy hs => by
  rw [hr]
  refine rR_mono (k := 0) (Nat.zero_le _) ?_
  refine (rR0_iff hG (idP_lt hx) (idP_lt hy)).2 ?_
  unfold RegN
  rw [endOf_id hx.2.1, endOf_id hy.2.1]
  exact hs
 have hside : ∀ x, InV G x → (r (idP (bP G (G.X x.1 x.2))) = r (idP (eP G (G.X x.1 x.2))) ↔ r (idP x) = r (idP (rot3 x))) := fun x hx => by
  obtain ⟨h1, h2⟩ := sides hG hx
  rcases h2 with ⟨_, e, h3⟩ | ⟨_, e, h3⟩
  ·have := hreg _ _ (eP_in hG hx.2.2).1 h1 h3
   rw [← this, ← e]
  ·have := hreg _ _ (bP_in hG hx.2.2).1 h1 h3
   rw [← this, ← e]
   exact eq_comm
 have hall := forest hG (sat := fun a => r (idP (bP G a)) = r (idP (eP G a))) (c0 := G.n) (fun a ha hF => by rw [hr]; exact rR_be ha hF) (fun c q hc _ hq h => by
  have hv := hG.inV (x := (c, q)) hc hq
  rw [hside (c, q) hv]
  refine corner4 (f := fun q => r (idP (c, q))) hq fun q' hq' hne => ?_
  exact (hside (c, q') (hG.inV hc hq')).1 (h q' hq' hne))
 have hturn : ∀ c q, c < G.n → q < 4 → r (idP (c, q)) = r (idP (c, (q + 3) % 4)) := fun c q hc hq => by
  have hv := hG.inV (x := (c, q)) hc hq
  exact (hside (c, q) hv).1 (hall _ hv.2.2)
 have hcr : ∀ c q, c < G.n → q < 4 → r (idP (c, q)) = r (idP (c, 0)) := fun c q hc hq => by
  have t1 := hturn c 1 hc (by omega)
  have t2 := hturn c 2 hc (by omega)
  have t3 := hturn c 3 hc (by omega)
  simp only [Nat.reduceAdd, Nat.reduceMod] at t1 t2 t3
  match q, hq with
  | 0, _ => rfl
  | 1, _ => exact t1
  | 2, _ => rw [t2, t1]
  | 3, _ => rw [t3, t2, t1]
 have hcon : ∀ c d, c < G.n → Conn G c d → r (idP (c, 0)) = r (idP (d, 0)) := fun c d hc h => by
  induction h with
  | refl => rfl
  | @step b q hb hq ih =>
   have hbl := hb.lt hG hc
   have hv := hG.inV (x := (b, q)) hbl hq
   obtain ⟨o1, o2, o3⟩ := oth_spec hG hv
   rw [ih, ← hcr b q hbl hq, ← hcr (oth G (b, q)).1 (oth G (b, q)).2 o1.1 o1.2.1]
   have ha : G.X b q < 2 * G.n := hv.2.2
   have hs := hall _ ha
   rcases at_be hG hv with e | e
   ·simp only at e
    have eo := oth_b hG ha
    rw [← e] at eo hs
    rw [show ((oth G (b, q)).1, (oth G (b, q)).2) = oth G (b, q) from rfl, eo]; exact hs
   ·simp only at e
    have eo := oth_e hG ha
    rw [← e] at eo hs
    rw [show ((oth G (b, q)).1, (oth G (b, q)).2) = oth G (b, q) from rfl, eo]; exact hs.symm
 rw [← hr]
 have hI := endOf_inV hG hi
 have hJ := endOf_inV hG hj
 have := hcon (i / 4) (j / 4) (by omega) hc
 rw [← hcr (i / 4) (i % 4) (by omega) (by omega), ← hcr (j / 4) (j % 4) (by omega) (by omega)] at this
 have e1 : idP (i / 4, i % 4) = i := id_endOf i
 have e2 : idP (j / 4, j % 4) = j := id_endOf j
 rwa [e1, e2] at this
theorem dual_tree (hP : PlanG G) {a : Nat} (ha : a < 2 * G.n) (hF : ¬ inF G a) : rR G a (idP (bP G a)) ≠ rR G a (idP (eP G a)) := by
 have h1 := rK_cnt hG (2 * G.n) (Nat.le_refl _)
 have h2 := rR_cnt hG (2 * G.n) (Nat.le_refl _)
 have h3 := regs_total hG hP
 have h4 := cnt_not (inF G) (2 * G.n)
 have hK := rK_rep G (2 * G.n)
 have hR := rR_rep hG (2 * G.n)
 have h5 : cntR (rR G (2 * G.n)) (4 * G.n) ≤ cntR (rK G (2 * G.n)) G.n := by
  refine cnt_inj (fun j => rK G (2 * G.n) (j / 4)) (fun j hj _ => ⟨(rK_conn hG _ (Nat.le_refl _) (j / 4) (by omega)).1, hK.idem _⟩) fun i j hi hj ei ej e => ?_
  have := dual_conn hG hi hj ((rK_iff hG (by omega) (by omega)).1 e)
  rw [ei, ej] at this
  exact this
 exact cnt_full (p := fun a => ¬ inF G a) (q := fun a => rR G a (idP (bP G a)) ≠ rR G a (idP (eP G a))) (n := 2 * G.n) (by omega) ha hF
end
section
variable {G : Dg} (hG : GoodG G) {M : Type} [Gp M]
def labP (G : Dg) (x : Nat → M) (c q : Nat) : M := if outB (G.s c) q then x (G.X c q) else Gp.inv (x (G.X c q))
def RelP (G : Dg) (x : Nat → M) (c : Nat) : Prop := labP G x c 0 * labP G x c 1 * labP G x c 2 * labP G x c 3 = Gp.e
structure RegL (G : Dg) (x : Nat → M) (g : Nat × Nat → M) : Prop where
 reg : ∀ y z, InV G y → InV G z → SameR G y z → g y = g z
 arc : ∀ a, a < 2 * G.n → g (bP G a) = g (eP G a) * x a
include hG
theorem potential (hP : PlanG G) (x : Nat → M) : ∃ g : Nat × Nat → M, (∀ y z, InV G y → InV G z → SameR G y z → g y = g z) ∧ ∀ a, a < 2 * G.n → ¬ inF G a → g (bP G a) = g (eP G a) * x a := by
 have key : ∀ k, k ≤ 2 * G.n → ∃ g : Nat × Nat → M, (∀ y z, InV G y → InV G z → SameR G y z → g y = g z) ∧ ∀ a, a < k → ¬ inF G a → g (bP G a) = g (eP G a) * x a := by
  intro k
  induction k with
  | zero => intro _; exact ⟨fun _ => Gp.e, fun _ _ _ _ _ => rfl, fun a h => by omega⟩
  | succ k ih =>
   intro hk
   obtain ⟨g, g1, g2⟩ := ih (by omega)
   by_cases hF : inF G k
   ·refine ⟨g, g1, fun a ha hn => g2 a ?_ hn⟩
    rcases Nat.lt_or_ge a k with h | h
    ·exact h
    ·obtain rfl : a = k := by omega
     exact absurd hF hn
   ·have hne := dual_tree hG hP (show k < 2 * G.n by omega) hF
    refine ⟨fun y => if rR G k (idP y) = rR G k (idP (bP G k)) then (g (eP G k) * x k * Gp.inv (g (bP G k))) * g y else g y, fun y z hy hz hs => ?_, fun a ha hn => ?_⟩
    ·have h0 : rR G k (idP y) = rR G k (idP z) := by
      refine rR_mono (k := 0) (Nat.zero_le _) ?_
      refine (rR0_iff hG (idP_lt hy) (idP_lt hz)).2 ?_
      unfold RegN
      rw [endOf_id hy.2.1, endOf_id hz.2.1]
      exact hs
     simp only [h0, g1 y z hy hz hs]
    ·rcases Nat.lt_or_ge a k with h | h
     ·have hbe := rR_be (m := k) h hn
      simp only [hbe]
      split
      ·rw [g2 a h hn]; simp only [Gp.assoc]
      ·exact g2 a h hn
     ·obtain rfl : a = k := by omega
      simp only [if_true]
      rw [if_neg (fun e => hne e.symm), Gp.assoc, Gp.inv_mul, Gp.mul_e]
 exact key (2 * G.n) (Nat.le_refl _)
theorem sat_place {x : Nat → M} {g : Nat × Nat → M} (hg : ∀ y z, InV G y → InV G z → SameR G y z → g y = g z) {c q : Nat} (hc : c < G.n) (hq : q < 4) : g (bP G (G.X c q)) = g (eP G (G.X c q)) * x (G.X c q) ↔ g (c, q) = g (c, (q + 3) % 4) * labP G x c q := by
 have hv := hG.inV (x := (c, q)) hc hq
 obtain ⟨h1, h2⟩ := sides hG hv
 unfold labP
 rcases h2 with ⟨ho, e, h3⟩ | ⟨ho, e, h3⟩
 ·have := hg _ _ (eP_in hG hv.2.2).1 h1 h3
  simp only at this ho e
  rw [if_pos ho, ← e, this]; rfl
 ·have := hg _ _ (bP_in hG hv.2.2).1 h1 h3
  simp only at this ho e
  rw [if_neg (by rw [ho]; decide), ← e, this, Gp.eq_mul_inv]
  exact ⟨fun h => h.symm, fun h => h.symm⟩
omit hG in
theorem cyc4 {r y : Nat → M} (hy : y 0 * y 1 * y 2 * y 3 = Gp.e) {q : Nat} (hq : q < 4) (h : ∀ q', q' < 4 → q' ≠ q → r q' = r ((q' + 3) % 4) * y q') : r q = r ((q + 3) % 4) * y q := by
 match q, hq with
 | 0, _ =>
  have h1 := h 1 (by omega) (by omega); have h2 := h 2 (by omega) (by omega); have h3 := h 3 (by omega) (by omega)
  simp only [Nat.reduceAdd, Nat.reduceMod] at *
  have e : y 1 * y 2 * y 3 * y 0 = Gp.e := by
   refine Gp.cancelL (a := y 0) ?_
   rw [← Gp.assoc, ← Gp.assoc, ← Gp.assoc, hy, Gp.e_mul, Gp.mul_e]
  rw [h3, h2, h1, Gp.assoc, Gp.assoc, Gp.assoc, ← Gp.assoc (y 2), ← Gp.assoc (y 1), ← Gp.assoc (y 1), e, Gp.mul_e]
 | 1, _ =>
  have h1 := h 0 (by omega) (by omega); have h2 := h 2 (by omega) (by omega); have h3 := h 3 (by omega) (by omega)
  simp only [Nat.reduceAdd, Nat.reduceMod] at *
  have e : y 2 * y 3 * y 0 * y 1 = Gp.e := by
   refine Gp.cancelL (a := y 0 * y 1) ?_
   rw [← Gp.assoc, ← Gp.assoc, ← Gp.assoc, hy, Gp.e_mul, Gp.mul_e]
  rw [h1, h3, h2, Gp.assoc, Gp.assoc, Gp.assoc, ← Gp.assoc (y 3), ← Gp.assoc (y 2), ← Gp.assoc (y 2), e, Gp.mul_e]
 | 2, _ =>
  have h1 := h 0 (by omega) (by omega); have h2 := h 1 (by omega) (by omega); have h3 := h 3 (by omega) (by omega)
  simp only [Nat.reduceAdd, Nat.reduceMod] at *
  have e : y 3 * y 0 * y 1 * y 2 = Gp.e := by
   refine Gp.cancelR (a := y 3) ?_
   rw [Gp.assoc, Gp.assoc, Gp.assoc, ← Gp.assoc (y 1), ← Gp.assoc (y 0), ← Gp.assoc (y 0), hy, Gp.e_mul, Gp.mul_e]
  rw [h2, h1, h3, Gp.assoc, Gp.assoc, Gp.assoc, ← Gp.assoc (y 0), ← Gp.assoc (y 3), ← Gp.assoc (y 3), e, Gp.mul_e]
 | 3, _ =>
  have h1 := h 0 (by omega) (by omega); have h2 := h 1 (by omega) (by omega); have h3 := h 2 (by omega) (by omega)
  simp only [Nat.reduceAdd, Nat.reduceMod] at *
  rw [h3, h2, h1, Gp.assoc, Gp.assoc, Gp.assoc, ← Gp.assoc (y 1), ← Gp.assoc (y 0), ← Gp.assoc (y 0), hy, Gp.mul_e]
theorem planar (hP : PlanG G) {x : Nat → M} {c0 : Nat} (hr : ∀ c, c < G.n → c ≠ c0 → RelP G x c) : ∃ g : Nat × Nat → M, RegL G x g := by
 obtain ⟨g, g1, g2⟩ := potential hG hP x
 refine ⟨g, g1, ?_⟩
 refine forest hG (sat := fun a => g (bP G a) = g (eP G a) * x a) (c0 := c0) g2 fun c q hc hne hq h => ?_
 rw [sat_place hG g1 hc hq]
 exact cyc4 (r := fun q => g (c, q)) (y := labP G x c) (hr c hc hne) hq fun q' hq' hn => (sat_place hG g1 hc hq').1 (h q' hq' hn)
theorem RegL.rel {x : Nat → M} {g : Nat × Nat → M} (h : RegL G x g) {c : Nat} (hc : c < G.n) : RelP G x c := by
 have t : ∀ q, q < 4 → g (c, q) = g (c, (q + 3) % 4) * labP G x c q := fun q hq => (sat_place hG h.reg hc hq).1 (h.arc _ (hG.X c q hc hq))
 have t0 := t 0 (by omega)
 have t1 := t 1 (by omega)
 have t2 := t 2 (by omega)
 have t3 := t 3 (by omega)
 simp only [Nat.reduceAdd, Nat.reduceMod] at t0 t1 t2 t3
 rw [t2, t1, t0] at t3
 unfold RelP
 refine Gp.cancelL (a := g (c, 3)) ?_
 rw [Gp.mul_e, ← Gp.assoc, ← Gp.assoc, ← Gp.assoc]
 exact t3.symm
end
end Go.Proofs.Ytjlkndkedknocaa
namespace Go.Proofs.Ytjlkndkedknocaa
open Go Go.Ai
attribute [local instance] Classical.propDecidable
variable {E : Env} (hE : OE E)
include hE
theorem root_ {h : List O} {pl b N c : Nat} {up : List Int} {r : Nat → Nat} {el : TypeId} {own : Option Nat} (hp : rd h pl 0 = some (.slice (some ⟨b, 0, none⟩) N c)) (hb : h[b]? = some (.cells (intsC up) el own)) (hU : UF r N up) {i : Nat} (hi : i < N) :
  DR E 185 [.pointer (some ⟨pl, 0, none⟩), .int .i64 i] ⟨h, h.length⟩ (.ret (.int .i64 (r i))) ⟨h, h.length⟩ := by
 refine hE.fn (body := rb185) rfl ?_
 unfold rb185
 simp
 refine DW_loop (fun kk fr st => ∃ (j : Nat), j = kk ∧ j < N ∧ r j = r i ∧ st = ⟨h, h.length⟩ ∧ get fr 0 = .pointer (some ⟨pl, 0, none⟩) ∧ get fr 1 = .int .i64 j) ?_ (k := i) ?_
 ·rintro kk fr st ⟨j, rfl, hj, hr, rfl, g0, g1⟩
  obtain ⟨u, h1, h2, h3, h4⟩ := hU.at_ j hj
  have hjl : j < up.length := by rw [hU.len]; exact hj
  by_cases hu : u = j
  ·have hrj := h4.1 hu
   simp [g0, g1, hp, rd_def, hb, hj, intsC_get hjl, h1, hu]
   have hp' := hp
   rw [rd_def] at hp'
   simp [hp', hb, hj, intsC_get hjl, h1, hu, endK_ret, ← hr, hrj]
  ·have hp' := hp
   rw [rd_def] at hp'
   have hlt : u < j := by omega
   simp [g0, g1, rd_def, hp', hb, hj, intsC_get hjl, h1, hu]
   exact ⟨u, hlt, by omega, by omega, rfl⟩
 ·exact ⟨i, rfl, hi, rfl, rfl, by simp⟩
theorem joinW_ {h : List O} {pl b N c : Nat} {up : List Int} {r : Nat → Nat} {el : TypeId} {s : Nat} (hp : rd h pl 0 = some (.slice (some ⟨b, 0, none⟩) N c)) (hb : h[b]? = some (.cells (intsC up) el (some s))) (hU : UF r N up) {i j : Nat} (hi : i < N) (hj : j < N) :
  DR E 184 [.pointer (some ⟨pl, 0, none⟩), .int .i64 i, .int .i64 j] ⟨h, h.length⟩ (.ret (.tuple #[])) ⟨h.set b (.cells (intsC (up.set (max (r i) (r j)) ((min (r i) (r j) : Nat) : Int))) el (some s)), b⟩ := by
 refine hE.fn (body := rb184) rfl ?_
 unfold rb184
 have r1 := root_ hE hp hb hU hi
 have r2 := root_ hE hp hb hU hj
 have hbl := (List.getElem?_eq_some_iff.1 hb).1
 have hM : max (r i) (r j) < N := by
  have h1 := hU.rep.le i
  have h2 := hU.rep.le j
  omega
 have hmx : max ((r i : Nat) : Int) (r j) = ((max (r i) (r j) : Nat) : Int) := by omega
 have hmn : min ((r i : Nat) : Int) (r j) = ((min (r i) (r j) : Nat) : Int) := by omega
 generalize max (r i) (r j) = M at hM hmx ⊢
 generalize min (r i) (r j) = m at hmn ⊢
 have hl := hU.len
 have hM2 : M + 1 ≤ up.length := by omega
 have hp' := hp
 rw [rd_def] at hp'
 simp [DC_of r1, DC_of r2, rd_def, hp', hmx, hmn, hM, wrN_def, hb, hM2, intsC_set, endK_normal]
 unfold pairQ back
 rw [if_neg (by simp; omega)]
 simp [Nat.min_eq_right (Nat.le_of_lt hbl)]
end Go.Proofs.Ytjlkndkedknocaa
namespace Go.Ai
attribute [local instance] Classical.propDecidable
theorem atG_fresh {κ : Type} {k : κ} : ∀ {l : List (κ × Value × Nat)} {i : Nat}, (∀ y ∈ l, k ≠ y.1) → atG k l i = none := by
 intro l
 induction l with
 | nil => intro i _; rfl
 | cons y l ih =>
  intro i h
  simp only [atG]
  rw [if_neg (h y (by simp))]
  exact ih fun z hz => h z (by simp [hz])
theorem updS_fresh {κ : Type} {kc : κ → List Value} {shape : List (Option IntKind)} (K : KeyOk kc shape) {l : List (κ × Value × Nat)} {h : List O} {f b clock : Nat} (hb : h[b]? = some (.map (l.map (entG kc)) clock)) {k : κ} (hn : ∀ y ∈ l, k ≠ y.1) (v : Value) :
  updS shape true ⟨h, f⟩ (.map (some b)) (.agg (kc k).toArray) v = some (.val undef, ⟨h.set b (.map ((l ++ [(k, v, clock)]).map (entG kc)) (clock + 1)), min f b⟩) := by
 simp only [updS, hb, findK_G K, bind, Option.bind_some, atG_fresh hn]
 simp [entG]
def idL (i : Nat) : List Int := (List.range i).map fun (j : Nat) => (j : Int)
theorem idL_succ (i : Nat) : idL (i + 1) = idL i ++ [(i : Int)] := by simp [idL, List.range_succ]
theorem idL_length (i : Nat) : (idL i).length = i := by simp [idL]
theorem idL_nth {i j : Nat} (h : j < i) : nth (idL i) j = j := by simp [idL, nth, h]
theorem UF.start (N : Nat) : UF (fun i => i) N (idL N) := ⟨⟨fun i => Nat.le_refl _, fun i => rfl⟩, idL_length N, fun i hi => ⟨i, idL_nth hi, Nat.le_refl _, rfl, by simp⟩⟩
def tabL (f : Nat → Int) (n : Nat) : List Int := (List.range n).map f
theorem tabL_length (f : Nat → Int) (n : Nat) : (tabL f n).length = n := by simp [tabL]
theorem tabL_nth {f : Nat → Int} {n j : Nat} (h : j < n) : nth (tabL f n) j = f j := by simp [tabL, nth, h]
theorem eq_tabL {xs : List Int} {f : Nat → Int} {n : Nat} (hl : xs.length = n) (h : ∀ j, j < n → nth xs j = f j) : xs = tabL f n := by
 apply List.ext_getElem (by rw [hl, tabL_length])
 intro j h1 h2
 have := h j (by omega)
 rw [nth_eq (by omega)] at this
 rw [this, ← nth_eq, tabL_nth (by omega)]
end Go.Ai
namespace Go.Proofs.Ytjlkndkedknocaa
open Go Go.Ai
attribute [local instance] Classical.propDecidable
def arR (G : Dg) : Nat → Nat := archR G.X G.n
noncomputable def arN (G : Dg) (a : Nat) : Nat := cntR (arR G) (arR G a)
noncomputable def arC (G : Dg) : Nat := cntR (arR G) (2 * G.n)
noncomputable def arL (G : Dg) : List Int := tabL (fun a => (arN G a : Int)) (2 * G.n)
theorem arR_rep (G : Dg) : Rep (arR G) := archR_rep _ _
theorem arN_lt {G : Dg} {a : Nat} (ha : a < 2 * G.n) : arN G a < arC G := by
 have h := arR_rep G
 have h1 := h.le a
 unfold arN arC cntR
 have h2 := cntP_mono (fun b => arR G b = b) (show arR G a + 1 ≤ 2 * G.n by omega)
 simp only [cntP] at h2
 rw [if_pos (h.idem a)] at h2
 omega
theorem arC_le (G : Dg) : arC G ≤ 2 * G.n := cntP_le _ _
def inP (s : Int) : Nat := if s < 0 then 1 else 3
def lE (X : Nat → Nat → Nat) (s : Nat → Int) : Nat → List ((Nat × Nat) × Value × Nat)
 | 0 => []
 | c + 1 => (lE X s c ++ [((c, 0), .int .i64 (X c 0), 2 * c)]) ++ [((c, inP (s c)), .int .i64 (X c (inP (s c))), 2 * c + 1)]
theorem lE_lt {X : Nat → Nat → Nat} {s : Nat → Int} : ∀ {c : Nat}, ∀ y ∈ lE X s c, y.1.1 < c := by
 intro c
 induction c with
 | zero => intro y h; simp [lE] at h
 | succ c ih =>
  intro y h
  simp only [lE, List.mem_append, List.mem_singleton] at h
  rcases h with (h | rfl) | rfl
  ·have := ih y h; omega
  ·simp
  ·simp
def linkC (u : Value) (xa : Option Addr) (n xc : Nat) (L : Int) (av : Value) (cnt : Int) (cv : Value) (k : Int) (mv : Value) : List Value :=
 [u, .slice xa n xc, .int .i64 L, av, .int .i64 cnt, cv, .int .i64 k, mv]
def LinkP (h : List O) (pl n : Nat) (x : Nat → Nat → Int) (s : Nat → Int) (L : Int) (k : Nat) (xs : List Int) : Prop :=
 ∃ uv xa xc ab cb mb, h[pl]? = some (.cells (linkC uv xa n xc L (.slice (some ⟨ab, 0, none⟩) (2 * n) (2 * n)) (arC (dgOf n x s L) + L) (.slice (some ⟨cb, 0, none⟩) (2 * n) (2 * n)) (k + L) (.map (some mb))) 170 (some 0)) ∧
  CrossP h xa n x s ∧ h[ab]? = some (.cells (intsC (arL (dgOf n x s L))) 3 (some 0)) ∧ h[cb]? = some (.cells (intsC xs) 3 (some 0)) ∧
  h[mb]? = some (.map ((lE (dgOf n x s L).X s n).map (entG kcII)) (2 * n)) ∧ OrbI (2 * n) (nx (dgOf n x s L)) (2 * n) k xs ∧ k ≤ 2 * n
theorem LinkP.sub {h h' : List O} {pl n : Nat} {x : Nat → Nat → Int} {s : Nat → Int} {L : Int} {k : Nat} {xs : List Int} (hl : LinkP h pl n x s L k xs) (e : Sub h h') : LinkP h' pl n x s L k xs := by
 obtain ⟨uv, xa, xc, ab, cb, mb, h1, h2, h3, h4, h5, h6⟩ := hl
 exact ⟨uv, xa, xc, ab, cb, mb, e _ _ h1, h2.sub e, e _ _ h3, e _ _ h4, e _ _ h5, h6⟩
end Go.Proofs.Ytjlkndkedknocaa
namespace Go.Proofs.Ytjlkndkedknocaa
open Go Go.Ai
attribute [local instance] Classical.propDecidable
structure LkI (h0 h : List O) (a : Option Addr) (n c : Nat) (L : Int) (N : Nat) (uv : Value) (ar : List Int) (es : List MapEntry) (clock : Nat) (cnt : Int) : Prop where
 sub : Sub h0 h
 dg : AtB h h0.length (.cells [.slice a n c, .int .i64 L] 24 (some 0))
 ar : AtB h (h0.length + 1) (.cells (intsC ar) 3 (some 0))
 mp : AtB h (h0.length + 2) (.map es clock)
 lk : AtB h (h0.length + 3) (.cells (linkC uv a n c L (.slice (some ⟨h0.length + 1, 0, none⟩) N N) cnt (.slice none 0 0) 0 (.map (some (h0.length + 2)))) 170 (some 0))
theorem LkI.app {h0 h : List O} {a : Option Addr} {n c : Nat} {L : Int} {N : Nat} {uv : Value} {ar : List Int} {es : List MapEntry} {clock : Nat} {cnt : Int} (k : LkI h0 h a n c L N uv ar es clock cnt) (l : List O) : LkI h0 (h ++ l) a n c L N uv ar es clock cnt :=
 ⟨k.sub.app l, app_of k.dg l, app_of k.ar l, app_of k.mp l, app_of k.lk l⟩
theorem LkI.set {h0 h : List O} {a : Option Addr} {n c : Nat} {L : Int} {N : Nat} {uv : Value} {ar : List Int} {es : List MapEntry} {clock : Nat} {cnt : Int} (k : LkI h0 h a n c L N uv ar es clock cnt) {b : Nat} (hb : h0.length + 4 ≤ b) (o : O) : LkI h0 (h.set b o) a n c L N uv ar es clock cnt :=
 ⟨k.sub.set (by omega) o, set_ne k.dg (by omega), set_ne k.ar (by omega), set_ne k.mp (by omega), set_ne k.lk (by omega)⟩
theorem LkI.setM {h0 h : List O} {a : Option Addr} {n c : Nat} {L : Int} {N : Nat} {uv : Value} {ar : List Int} {es es' : List MapEntry} {clock clock' : Nat} {cnt : Int} (k : LkI h0 h a n c L N uv ar es clock cnt) : LkI h0 (h.set (h0.length + 2) (.map es' clock')) a n c L N uv ar es' clock' cnt :=
 ⟨k.sub.set (by omega) _, set_ne k.dg (by omega), set_ne k.ar (by omega), set_self k.mp, set_ne k.lk (by omega)⟩
theorem LkI.setA {h0 h : List O} {a : Option Addr} {n c : Nat} {L : Int} {N : Nat} {uv : Value} {ar ar' : List Int} {es : List MapEntry} {clock : Nat} {cnt : Int} (k : LkI h0 h a n c L N uv ar es clock cnt) : LkI h0 (h.set (h0.length + 1) (.cells (intsC ar') 3 (some 0))) a n c L N uv ar' es clock cnt :=
 ⟨k.sub.set (by omega) _, set_ne k.dg (by omega), set_self k.ar, set_ne k.mp (by omega), set_ne k.lk (by omega)⟩
theorem LkI.setL {h0 h : List O} {a : Option Addr} {n c : Nat} {L : Int} {N : Nat} {uv uv' : Value} {ar : List Int} {es : List MapEntry} {clock : Nat} {cnt cnt' : Int} (k : LkI h0 h a n c L N uv ar es clock cnt) : LkI h0 (h.set (h0.length + 3) (.cells (linkC uv' a n c L (.slice (some ⟨h0.length + 1, 0, none⟩) N N) cnt' (.slice none 0 0) 0 (.map (some (h0.length + 2)))) 170 (some 0))) a n c L N uv' ar es clock cnt' :=
 ⟨k.sub.set (by omega) _, set_ne k.dg (by omega), set_ne k.ar (by omega), set_ne k.mp (by omega), set_self k.lk⟩
variable {E : Env} (hE : OE E)
include hE
theorem newLink_ {h0 : List O} {a : Option Addr} {n c : Nat} {x : Nat → Nat → Int} {s : Nat → Int} {L : Int} (hx : CrossP h0 a n x s) (hk : kindD n x s L = 0) :
  DC E 130 [dV a n c L] ⟨h0, h0.length⟩ fun o st' => ∃ (pl k : Nat) (xs : List Int), o = .ret (.pointer (some ⟨pl, 0, none⟩)) ∧ h0.length ≤ pl ∧ h0.length ≤ st'.fl ∧ Sub h0 st'.h ∧ LinkP st'.h pl n x s L k xs := by
 refine hE.fnC (body := rb130) rfl ?_
 unfold rb130
 have hS := (kind_zero hk).1
 obtain ⟨G, hGe⟩ : ∃ G, G = dgOf n x s L := ⟨_, rfl⟩
 have hG : GoodG G := by rw [hGe]; exact good_of hS
 have hGn : G.n = n := by rw [hGe]; rfl
 have hsz := hG.size
 have hlo := hG.loops
 have hGL : G.L = L := by rw [hGe]; rfl
 rw [hGL] at hlo
 rw [hGn] at hsz
 obtain ⟨N, hN⟩ : ∃ N, N = 2 * n := ⟨_, rfl⟩
 have hX : ∀ i q, i < n → q < 4 → x i q = (G.X i q : Int) := fun i q hi hq => by rw [hGe]; exact sound_x hS hi hq
 have hXlt : ∀ i q, i < n → q < 4 → G.X i q < N := fun i q hi hq => by rw [hN, ← hGn]; exact hG.X i q (by rw [hGn]; exact hi) hq
 have e1 : (N : Int) * 8 ≤ 140737488355328 := by omega
 have e2 : (N : Int) < 4611686018427387904 := by omega
 have hw2n : IntKind.i64.wrap (2 * (n : Int)) = N := by rw [w64_id] <;> omega
 simp [dV, rd_at0, rdN_at0, hw2n, e1, e2, List.append_assoc]
 refine DW_loop (fun kk fr st => ∃ (i : Nat) (h : List O) (uv : Value), i + kk = N ∧ st = ⟨h, h0.length⟩ ∧ LkI h0 h a n c L N uv (List.replicate N 0) [] 0 0 ∧ OwnS h (h0.length + 4) uv i (intsC (idL i)) 3 1 ∧
  get fr 1 = .pointer (some ⟨h0.length, 0, none⟩) ∧ get fr 3 = .int .i64 N ∧ get fr 4 = .pointer (some ⟨h0.length + 3, 0, none⟩) ∧ get fr 21 = .int .i64 N ∧ get fr 22 = .int .i64 i) ?_ (k := N) ?_
 ·rintro kk fr st ⟨i, h, uv, hik, rfl, hI, hu, g1, g3, g4, g21, g22⟩
  have b3 := hI.lk
  unfold AtB linkC at b3
  have hl3 := (List.getElem?_eq_some_iff.1 b3).1
  have hmin : min h0.length (h0.length + 3) = h0.length := by omega
  by_cases hi : i < N
  ·have hw : IntKind.i64.wrap ((i : Int) + 1) = (i : Int) + 1 := by rw [w64_id] <;> omega
   have hu2 : OwnS (h ++ [.cells [.int .i64 i] 3 (some 0)]) (h0.length + 4) uv i (intsC (idL i)) 3 1 := hu.ext (Ext.snoc _ _)
   have hread : readSlice (h ++ [.cells [.int .i64 i] 3 (some 0)]) 1 1 (some ⟨h.length, 0, none⟩) = some [.int .i64 i] := by simp [readSlice, rdN_at0]
   obtain ⟨b', H4, f4, happ, hb', hown, hf1, hf2, hL4, K4⟩ := append_S (fl := h0.length) (c := 1) (bytes := 8) hu2 hread (by simp) (by simp) (by simp; omega) (by simp only [roomMax]; omega) (by omega)
   obtain rfl : f4 = h0.length := by omega
   have hne : ∀ (b : Nat), b < h0.length + 4 → ∀ n' c', uv ≠ .slice (some ⟨b, 0, none⟩) n' c' := fun b hb n' c' e => by
    rcases hu.2 with ⟨h1, _⟩ | ⟨b2, s2, h1, h2, _⟩
    ·rw [e] at h1; cases h1
    ·rw [e] at h1
     simp only [Value.slice.injEq, Option.some.injEq, Addr.mk.injEq] at h1
     omega
   have hI4 : LkI h0 H4 a n c L N uv (List.replicate N 0) [] 0 0 := ⟨fun b o hb => K4 b o (app_of (hI.sub b o hb) _) (hne _ (by have := (List.getElem?_eq_some_iff.1 hb).1; omega)),
    K4 _ _ (app_of hI.dg _) (hne _ (by omega)), K4 _ _ (app_of hI.ar _) (hne _ (by omega)), K4 _ _ (app_of hI.mp _) (hne _ (by omega)), K4 _ _ (app_of hI.lk _) (hne _ (by omega))⟩
   have k3 := hI4.lk
   unfold AtB linkC at k3
   simp [g1, g3, g4, g21, g22, hi, rd_def, b3, happ, wrN_def, k3, hw, hmin, -List.length_append]
   refine ⟨kk - 1, by omega, i + 1, by omega, _, hI4.setL, ?_, by omega⟩
   have : OwnS H4 (h0.length + 4) (.slice (some ⟨b', 0, none⟩) (i + 1) (i + 1)) (i + 1) (intsC (idL (i + 1))) 3 1 := by rw [idL_succ]; simpa [intsC] using hown
   refine this.keep fun b s' e1 e2 => set_ne e2 ?_
   simp at e1
   have := (hown.at_).1
   omega
  ·have hin : i = N := by omega
   subst hin
   have b0 := hI.dg
   unfold AtB at b0
   obtain ⟨ub, su, hub⟩ : ∃ ub su, 0 < i → uv = .slice (some ⟨ub, 0, none⟩) i i ∧ h0.length + 4 ≤ ub ∧ h[ub]? = some (.cells (intsC (idL i)) 3 (some su)) := by
    rcases hu.2 with ⟨_, h1⟩ | ⟨b, s', h1, h2, h3, _⟩
    ·exact ⟨0, 0, fun h => by omega⟩
    ·exact ⟨b, s', fun _ => ⟨h1, h2, h3⟩⟩
   simp [g1, g3, g4, g21, g22, rd_def, b0]
   refine DW_loop (fun kk fr st => ∃ (j : Nat) (h : List O) (up : List Int), j + kk = n ∧ st = ⟨h, h0.length⟩ ∧ LkI h0 h a n c L i uv (List.replicate i 0) ((lE G.X s j).map (entG kcII)) (2 * j) 0 ∧
    (0 < i → AtB h ub (.cells (intsC up) 3 (some su)) ∧ UF (archR G.X j) i up) ∧
    get fr 1 = .pointer (some ⟨h0.length, 0, none⟩) ∧ get fr 3 = .int .i64 i ∧ get fr 4 = .pointer (some ⟨h0.length + 3, 0, none⟩) ∧ get fr 39 = .slice a n c ∧ get fr 40 = .int .i64 n ∧ get fr 41 = .int .i64 j) ?_ (k := n) ?_
   ·clear g1 g3 g4 g21 g22 b0 b3 hl3 hi hu hik hI
    rintro kk fr st ⟨j, h, up, hjk, rfl, hI, hU, g1, g3, g4, g39, g40, g41⟩
    by_cases hj : j < n
    ·have hw : IntKind.i64.wrap ((j : Int) + 1) = (j : Int) + 1 := by rw [w64_id] <;> omega
     obtain ⟨hub1, hub2, _⟩ := hub (by omega)
     obtain ⟨hU1, hU2⟩ := hU (by omega)
     unfold AtB at hU1
     obtain ⟨xb, xo, hxa, hxr⟩ := hx
     obtain rfl := hxa (by omega)
     have hcr : rdN h xb (xo + j * 5) 5 = some (crossC (x j) (s j)) := hI.sub.rdN (hxr j hj)
     rw [rdN_def] at hcr
     simp only [crossC] at hcr
     rw [hX j 0 hj (by omega), hX j 1 hj (by omega), hX j 2 hj (by omega), hX j 3 hj (by omega)] at hcr
     obtain ⟨H, hH⟩ : ∃ H, H = h ++ [O.cells [.int .i64 (G.X j 0), .int .i64 (G.X j 1), .int .i64 (G.X j 2), .int .i64 (G.X j 3), .int .i64 (s j)] 107 (some 0)] := ⟨_, rfl⟩
     have hpc : H[h.length]? = some (O.cells [.int .i64 (G.X j 0), .int .i64 (G.X j 1), .int .i64 (G.X j 2), .int .i64 (G.X j 3), .int .i64 (s j)] 107 (some 0)) := by rw [hH, app_at0]; rfl
     have hlH : H.length = h.length + 1 := by rw [hH]; simp
     have hIH := hI.app [O.cells [.int .i64 (G.X j 0), .int .i64 (G.X j 1), .int .i64 (G.X j 2), .int .i64 (G.X j 3), .int .i64 (s j)] 107 (some 0)]
     rw [← hH] at hIH
     have hUH : H[ub]? = some (.cells (intsC up) 3 (some su)) := by rw [hH]; exact app_of hU1 _
     have hubl := (List.getElem?_eq_some_iff.1 hU1).1
     have k3 := hIH.lk
     unfold AtB linkC at k3
     have hjn := joinW_ hE (h := H) (pl := h0.length + 3) (by rw [rd_def, k3, hub1]; rfl) hUH hU2 (hXlt j 1 hj (by omega)) (hXlt j 3 hj (by omega))
     obtain ⟨up', hup'⟩ : ∃ up', up' = up.set (max (archR G.X j (G.X j 1)) (archR G.X j (G.X j 3))) ((min (archR G.X j (G.X j 1)) (archR G.X j (G.X j 3)) : Nat) : Int) := ⟨_, rfl⟩
     have hU2' := hU2.join (hXlt j 1 hj (by omega)) (hXlt j 3 hj (by omega))
     rw [← hup'] at hjn hU2'
     obtain ⟨H2, hH2⟩ : ∃ H2, H2 = H.set ub (.cells (intsC up') 3 (some su)) := ⟨_, rfl⟩
     rw [← hH2] at hjn
     have hl2 : H2.length = h.length + 1 := by rw [hH2, List.length_set, hlH]
     have hI2 := hIH.set hub2 (.cells (intsC up') 3 (some su))
     rw [← hH2] at hI2
     have hjd : joined ⟨H, h0.length⟩ ⟨H2, ub⟩ = ⟨H2, h0.length⟩ := by simp [joined, hlH]; omega
     have hpc2 : H2[h.length]? = some (O.cells [.int .i64 (G.X j 0), .int .i64 (G.X j 1), .int .i64 (G.X j 2), .int .i64 (G.X j 3), .int .i64 (s j)] 107 (some 0)) := by rw [hH2]; exact set_ne hpc (by omega)
     have hm2 := hI2.mp
     unfold AtB at hm2
     have k32 := hI2.lk
     unfold AtB linkC at k32
     have hfr1 : ∀ y ∈ lE G.X s j, (j, 0) ≠ y.1 := fun y hy e => by have := lE_lt y hy; rw [← e] at this; simp at this
     obtain ⟨H3, hH3⟩ : ∃ H3, H3 = H2.set (h0.length + 2) (.map ((lE G.X s j ++ [((j, 0), Value.int .i64 (G.X j 0), 2 * j)]).map (entG kcII)) (2 * j + 1)) := ⟨_, rfl⟩
     have hup1 : updS [some .i64, some .i64] true ⟨H2, h0.length⟩ (.map (some (h0.length + 2))) (.agg #[.int .i64 j, .int .i64 0]) (.int .i64 (G.X j 0)) = some (.val undef, ⟨H3, h0.length⟩) := by
      have := updS_fresh keyII (f := h0.length) hm2 hfr1 (.int .i64 (G.X j 0))
      rw [show min h0.length (h0.length + 2) = h0.length by omega, ← hH3] at this
      exact this
     have hI3 : LkI h0 H3 (some ⟨xb, xo, none⟩) n c L i uv (List.replicate i 0) ((lE G.X s j ++ [((j, 0), Value.int .i64 (G.X j 0), 2 * j)]).map (entG kcII)) (2 * j + 1) 0 := by rw [hH3]; exact hI2.setM
     have hpc3 : H3[h.length]? = some (O.cells [.int .i64 (G.X j 0), .int .i64 (G.X j 1), .int .i64 (G.X j 2), .int .i64 (G.X j 3), .int .i64 (s j)] 107 (some 0)) := by
      rw [hH3]; exact set_ne hpc2 (by have := hI.lk; unfold AtB at this; have := (List.getElem?_eq_some_iff.1 this).1; omega)
     have hm3 := hI3.mp
     unfold AtB at hm3
     have k33 := hI3.lk
     unfold AtB linkC at k33
     have hq : inP (s j) = 1 ∨ inP (s j) = 3 := by unfold inP; split <;> simp
     have hfr2 : ∀ y ∈ lE G.X s j ++ [((j, 0), Value.int .i64 (G.X j 0), 2 * j)], (j, inP (s j)) ≠ y.1 := fun y hy e => by
      rcases List.mem_append.1 hy with hy | hy
      ·have := lE_lt y hy; rw [← e] at this; simp at this
      ·simp at hy; rw [hy] at e; simp at e; omega
     obtain ⟨H4, hH4⟩ : ∃ H4, H4 = H3.set (h0.length + 2) (.map ((lE G.X s (j + 1)).map (entG kcII)) (2 * (j + 1))) := ⟨_, rfl⟩
     have hup2 : updS [some .i64, some .i64] true ⟨H3, h0.length⟩ (.map (some (h0.length + 2))) (.agg #[.int .i64 j, .int .i64 (inP (s j) : Nat)]) (.int .i64 (G.X j (inP (s j)))) = some (.val undef, ⟨H4, h0.length⟩) := by
      have := updS_fresh keyII (f := h0.length) hm3 hfr2 (.int .i64 (G.X j (inP (s j))))
      rw [show min h0.length (h0.length + 2) = h0.length by omega] at this
      rw [hH4]
      exact this
     have hb2 : ¬ ub < h0.length := by omega
     have hsl : h0.length + 3 < h.length := by have := hI.lk; unfold AtB at this; exact (List.getElem?_eq_some_iff.1 this).1
     have hmin2 : min h0.length h.length = h0.length := by omega
     have hI4 : LkI h0 H4 (some ⟨xb, xo, none⟩) n c L i uv (List.replicate i 0) ((lE G.X s (j + 1)).map (entG kcII)) (2 * (j + 1)) 0 := by rw [hH4]; exact hI3.setM
     have hU4 : AtB H4 ub (.cells (intsC up') 3 (some su)) := by
      unfold AtB
      rw [hH4, hH3, hH2]
      exact set_ne (set_ne (set_self hUH) (by omega)) (by omega)
     rcases hS.sign j hj with hs1 | hs1
     all_goals
      simp only [hs1] at hH hpc hpc2 hpc3
      simp only [hs1, inP] at hup2
      simp at hup2
      simp [g1, g3, g4, g39, g40, g41, hj, rdN_def, rd_def, hcr, hmin2, wrN_at0, set_at0, hs1, ← hH, ← hlH, hpc, DC_of hjn, hjd, bit, hpc2, k32, step_updS, hup1, hpc3, k33, hup2, hw]
      exact ⟨kk - 1, by omega, j + 1, by omega, hI4, ⟨up', fun _ => ⟨hU4, hU2'⟩⟩, by omega⟩
    ·have hjn : j = n := by omega
     subst hjn
     have hUr : 0 < i → AtB h ub (.cells (intsC up) 3 (some su)) ∧ UF (arR G) i up := by
      have : arR G = archR G.X j := by unfold arR; rw [hGn]
      rw [this]; exact hU
     simp [g1, g3, g4, g39, g40, g41]
     refine DW_loop (fun kk fr st => ∃ (m : Nat) (h : List O) (ar : List Int), m + kk = i ∧ st = ⟨h, h0.length⟩ ∧ LkI h0 h a j c L i uv ar ((lE G.X s j).map (entG kcII)) (2 * j) (cntR (arR G) m) ∧
      (0 < i → AtB h ub (.cells (intsC up) 3 (some su))) ∧ ar.length = i ∧ (∀ q, q < m → nth ar q = arN G q) ∧
      get fr 1 = .pointer (some ⟨h0.length, 0, none⟩) ∧ get fr 4 = .pointer (some ⟨h0.length + 3, 0, none⟩) ∧ get fr 80 = .int .i64 i ∧ get fr 81 = .int .i64 m) ?_ (k := i) ?_
     ·clear g1 g3 g4 g39 g40 g41 hj hI hU hjk
      rintro kk fr st ⟨m, h, ar, hmk, rfl, hI, hua, hal, har, g1, g4, g80, g81⟩
      have k3 := hI.lk
      unfold AtB linkC at k3
      have hcl := cntP_le (fun b => arR G b = b) m
      have hcl' : cntR (arR G) m ≤ m := hcl
      by_cases hm : m < i
      ·have hw : IntKind.i64.wrap ((m : Int) + 1) = (m : Int) + 1 := by rw [w64_id] <;> omega
       obtain ⟨hub1, hub2, _⟩ := hub (by omega)
       have hua1 := hua (by omega)
       unfold AtB at hua1
       have hrt := root_ hE (h := h) (pl := h0.length + 3) (by rw [rd_def, k3, hub1]; rfl) hua1 (hUr (by omega)).2 hm
       have hrm := (arR_rep G).le m
       have b1 := hI.ar
       unfold AtB at b1
       have hm1 : m + 1 ≤ i := by omega
       have hmin1 : min h0.length (h0.length + 1) = h0.length := by omega
       have hmin3 : min h0.length (h0.length + 3) = h0.length := by omega
       by_cases hr : arR G m = m
       ·obtain ⟨H, hH⟩ : ∃ H, H = h.set (h0.length + 1) (.cells (intsC (ar.set m (cntR (arR G) m))) 3 (some 0)) := ⟨_, rfl⟩
        have hIH := hI.setA (ar' := ar.set m (cntR (arR G) m))
        rw [← hH] at hIH
        have k3' := hIH.lk
        unfold AtB linkC at k3'
        have hwc : IntKind.i64.wrap ((cntR (arR G) m : Int) + 1) = (cntR (arR G) m : Int) + 1 := by rw [w64_id] <;> omega
        simp [g1, g4, g80, g81, hm, DC_of hrt, hr, rd_def, k3, hw, bit, wrN_def, b1, hal, hm1, intsC_set, hmin1, ← hH, k3', hwc, hmin3]
        refine ⟨kk - 1, by omega, m + 1, by omega, ar.set m (cntR (arR G) m), ?_, fun _ => ?_, by simp [hal], fun q hq => ?_, by omega⟩
        ·have := hIH.setL (uv' := uv) (cnt' := (cntR (arR G) (m + 1) : Int))
         rw [cntR_succ, if_pos hr] at this ⊢
         exact this
        ·rw [hH]; exact set_ne (set_ne hua1 (by omega)) (by omega)
        ·rw [nth_set (by omega)]
         by_cases e : q = m
         ·rw [if_pos e, e]; unfold arN; rw [hr]
         ·rw [if_neg e]; exact har q (by omega)
       ·have hlt : arR G m < m := by omega
        have hlt2 : arR G m < i := by omega
        have hlt3 : arR G m < ar.length := by omega
        have hv := har _ hlt
        have hne : ¬ ((arR G m : Nat) : Int) = m := by omega
        simp [g1, g4, g80, g81, hm, DC_of hrt, hr, rd_def, k3, hw, bit, wrN_def, b1, hal, hm1, intsC_set, hmin1, hlt2, intsC_get hlt3, hv, hne]
        refine ⟨kk - 1, by omega, m + 1, by omega, ar.set m (arN G (arR G m)), ?_, fun _ => ?_, by simp [hal], fun q hq => ?_, by omega⟩
        ·have := hI.setA (ar' := ar.set m (arN G (arR G m)))
         rw [cntR_succ, if_neg hr]
         exact this
        ·exact set_ne hua1 (by omega)
        ·rw [nth_set (by omega)]
         by_cases e : q = m
         ·rw [if_pos e, e]; unfold arN; rw [(arR_rep G).idem]
         ·rw [if_neg e]; exact har q (by omega)
      ·have hmi : m = i := by omega
       subst hmi
       have b0 := hI.dg
       unfold AtB at b0
       have hmin3 : min h0.length (h0.length + 3) = h0.length := by omega
       have hwc : IntKind.i64.wrap ((cntR (arR G) m : Int) + L) = (cntR (arR G) m : Int) + L := by rw [w64_id] <;> omega
       obtain ⟨H, hH⟩ : ∃ H, H = h.set (h0.length + 3) (.cells (linkC uv a j c L (.slice (some ⟨h0.length + 1, 0, none⟩) m m) (cntR (arR G) m + L) (.slice none 0 0) 0 (.map (some (h0.length + 2)))) 170 (some 0)) := ⟨_, rfl⟩
       have hIH := hI.setL (uv' := uv) (cnt' := (cntR (arR G) m : Int) + L)
       rw [← hH] at hIH
       simp only [linkC] at hH
       have b0' := hIH.dg
       unfold AtB at b0'
       have hcp := componentsP_ hE (c := c) (hx.sub hIH.sub) hk
       simp only [dV] at hcp
       simp [g1, g4, g80, g81, rd_def, k3, b0, hwc, bit, wrN_def, hmin3, ← hH, rdN_def, b0']
       refine hcp.imp ?_
       rintro o ⟨h2, f2⟩ ⟨cb, k, xs, rfl, hcb, hf2, hs2, hxs, hO, hk2⟩
       simp only at hf2 hs2 hxs
       have k3' := hs2 _ _ hIH.lk
       unfold linkC at k3'
       have hl3 := (List.getElem?_eq_some_iff.1 k3').1
       simp [g4, joined_fl, hf2, wrN_def, k3', hmin3, List.getElem?_set_self hl3, endK_ret]
       unfold pairQ back
       rw [if_neg (by simp [Out.scalar, scalar, flat1, flat])]
       have hHl := hIH.lk
       unfold AtB at hHl
       have hH3 := (List.getElem?_eq_some_iff.1 hHl).1
       have hs02 : ∀ (b : Nat) (o : O), H[b]? = some o → b ≠ h0.length + 3 → (h2.set (h0.length + 3) (.cells [uv, .slice a j c, .int .i64 L, .slice (some ⟨h0.length + 1, 0, none⟩) m m, .int .i64 (cntR (arR G) m + L), .slice (some ⟨cb, 0, none⟩) (2 * j) (2 * j), .int .i64 (k + L), .map (some (h0.length + 2))] 170 (some 0)))[b]? = some o := fun b o hb hne => set_ne (hs2 b o hb) hne
       refine ⟨h0.length + 3, rfl, by omega, Nat.le_refl _, fun b o hb => ?_, k, xs, uv, a, c, h0.length + 1, cb, h0.length + 2, ?_, ?_, ?_, ?_, ?_, hO, hk2⟩
       ·have := (List.getElem?_eq_some_iff.1 hb).1
        exact hs02 b o (hIH.sub b o hb) (by omega)
       ·rw [← hGe, show arC G = cntR (arR G) m from by unfold arC; rw [hGn, hN], ← hN]
        exact set_self k3'
       ·exact hx.sub fun b o hb => by
         have := (List.getElem?_eq_some_iff.1 hb).1
         exact hs02 b o (hIH.sub b o hb) (by omega)
       ·have := hs02 _ _ hIH.ar (by omega)
        rw [← hGe, show arL G = ar from (eq_tabL (by rw [hGn]; omega) (fun q hq => by rw [har q (by rw [hGn] at hq; omega)])).symm]
        exact this
       ·exact set_ne hxs (by omega)
       ·rw [← hGe]; exact hs02 _ _ hIH.mp (by omega)
     ·exact ⟨0, h, List.replicate i 0, by omega, rfl, hI, fun h0' => (hUr h0').1, by simp, fun q hq => by omega, by simp [g1, g4]⟩
   ·refine ⟨0, h, idL i, by omega, rfl, hI, fun h0' => ⟨(hub h0').2.2, UF.start i⟩, by simp [g1, g3, g4]⟩
 ·refine ⟨0, _, .slice none 0 0, by omega, rfl, ⟨(Sub.refl h0).app _, ?_, ?_, ?_, ?_⟩, OwnS.nil _ _ _ _, by simp⟩
  ·unfold AtB; rw [app_at0]; rfl
  ·unfold AtB; rw [app_at]; simp [rep, intsC]
  ·unfold AtB; rw [app_at]; rfl
  ·unfold AtB; rw [app_at]; rfl
end Go.Proofs.Ytjlkndkedknocaa
namespace Go.Ai
theorem Ints.sub {h h' : List O} {v : Value} {xs : List Int} (hc : Ints h v xs) (e : ∀ (b : Nat) (o : O), h[b]? = some o → h'[b]? = some o) : Ints h' v xs := by
 obtain ⟨a, b, o, c, h1, h2, h3, h4⟩ := hc
 exact ⟨a, b, o, c, h1, h2, fun i hi => Sub.rd e (h3 i hi), h4⟩
theorem Mat.sub {h h' : List O} {v : Value} {A : List (List Int)} (hc : Mat h v A) (e : ∀ (b : Nat) (o : O), h[b]? = some o → h'[b]? = some o) : Mat h' v A := by
 obtain ⟨a, b, o, c, vs, h1, h2, h3, h4⟩ := hc
 exact ⟨a, b, o, c, vs, h1, h2, fun i hi => ⟨Sub.rd e (h3 i hi).1, (h3 i hi).2.sub e⟩, h4⟩
theorem orb_unique {N k k' : Nat} {f : Nat → Nat} {xs xs' : List Int} (h : OrbI N f N k xs) (h' : OrbI N f N k' xs') : xs = xs' ∧ k = k' := by
 obtain ⟨e1, e2⟩ := h.numb.unique h'.numb
 refine ⟨?_, e2⟩
 apply List.ext_getElem (by rw [h.len, h'.len])
 intro j h1 h2
 have hj : j < N := by rw [← h.len]; exact h1
 have e := e1 j hj
 have d1 := h.done j hj
 have d2 := h'.done j hj
 rw [← nth_eq h1, ← nth_eq h2]
 omega
end Go.Ai
namespace Go.Proofs.Ytjlkndkedknocaa
open Go Go.Ai
attribute [local instance] Classical.propDecidable
noncomputable def cpX (G : Dg) : List Int × Nat := if h : ∃ p : List Int × Nat, OrbI (2 * G.n) (nx G) (2 * G.n) p.2 p.1 then h.choose else ([], 0)
noncomputable def cpL (G : Dg) : List Int := (cpX G).1
noncomputable def cpK (G : Dg) : Nat := (cpX G).2
theorem cp_eq {G : Dg} {k : Nat} {xs : List Int} (h : OrbI (2 * G.n) (nx G) (2 * G.n) k xs) : xs = cpL G ∧ k = cpK G := by
 have hx : ∃ p : List Int × Nat, OrbI (2 * G.n) (nx G) (2 * G.n) p.2 p.1 := ⟨(xs, k), h⟩
 have hs := hx.choose_spec
 have e : cpX G = hx.choose := dif_pos hx
 unfold cpL cpK
 rw [e]
 exact orb_unique h hs
noncomputable def fstA (G : Dg) (k : Int) : Int := firstI (fun j => decide (nth (cpL G) j = k)) (2 * G.n)
noncomputable def merD (G : Dg) (k : Int) : Int := if 0 ≤ fstA G k then arN G (fstA G k).toNat + 1 else arC G - cpK G + k + 1
theorem fstA_lt {G : Dg} {k : Int} : fstA G k < 2 * G.n ∧ -1 ≤ fstA G k := by
 unfold fstA
 rcases firstI_cases (fun j => decide (nth (cpL G) j = k)) (2 * G.n) with ⟨i, h1, _, _, h2⟩ | ⟨_, h2⟩ <;> omega
def LnkP (h : List O) (pl n : Nat) (x : Nat → Nat → Int) (s : Nat → Int) (L : Int) : Prop := LinkP h pl n x s L (cpK (dgOf n x s L)) (cpL (dgOf n x s L))
theorem LinkP.canon {h : List O} {pl n k : Nat} {x : Nat → Nat → Int} {s : Nat → Int} {L : Int} {xs : List Int} (hl : LinkP h pl n x s L k xs) : LnkP h pl n x s L := by
 have hl' := hl
 obtain ⟨uv, xa, xc, ab, cb, mb, h1, h2, h3, h4, h5, hO, hk⟩ := hl'
 obtain ⟨e1, e2⟩ := cp_eq (G := dgOf n x s L) hO
 unfold LnkP
 rw [← e1, ← e2]; exact hl
theorem LnkP.sub {h h' : List O} {pl n : Nat} {x : Nat → Nat → Int} {s : Nat → Int} {L : Int} (hl : LnkP h pl n x s L) (e : Sub h h') : LnkP h' pl n x s L := LinkP.sub hl e
variable {E : Env} (hE : OE E)
include hE
theorem newLinkC_ {h0 : List O} {a : Option Addr} {n c : Nat} {x : Nat → Nat → Int} {s : Nat → Int} {L : Int} (hx : CrossP h0 a n x s) (hk : kindD n x s L = 0) :
  DC E 130 [dV a n c L] ⟨h0, h0.length⟩ fun o st' => ∃ pl : Nat, o = .ret (.pointer (some ⟨pl, 0, none⟩)) ∧ h0.length ≤ pl ∧ h0.length ≤ st'.fl ∧ Sub h0 st'.h ∧ LnkP st'.h pl n x s L :=
 (newLink_ hE hx hk).imp fun o st' ⟨pl, k, xs, h1, h2, h3, h4, h5⟩ => ⟨pl, h1, h2, h3, h4, h5.canon⟩
theorem generator_ {h : List O} {pl n : Nat} {x : Nat → Nat → Int} {s : Nat → Int} {L : Int} (hl : LnkP h pl n x s L) (hn : n ≤ 200) {i : Nat} (hi : i < 2 * n) :
  DR E 149 [.pointer (some ⟨pl, 0, none⟩), .int .i64 i] ⟨h, h.length⟩ (.ret (.int .i64 (arN (dgOf n x s L) i + 1))) ⟨h, h.length⟩ := by
 refine hE.fn (body := rb149) rfl ?_
 unfold rb149
 obtain ⟨uv, xa, xc, ab, cb, mb, h1, h2, h3, h4, h5, hO, hk⟩ := hl
 unfold linkC at h1
 have hi' : (i : Int) < 2 * n := by omega
 have hG : (dgOf n x s L).n = n := rfl
 have hlen : i < (arL (dgOf n x s L)).length := by unfold arL; rw [tabL_length, hG]; exact hi
 have hv : nth (arL (dgOf n x s L)) i = arN (dgOf n x s L) i := tabL_nth (by rw [hG]; exact hi)
 have hlt := arN_lt (G := dgOf n x s L) (a := i) (by rw [hG]; exact hi)
 have hle := arC_le (dgOf n x s L)
 rw [hG] at hle
 have hw : IntKind.i64.wrap ((arN (dgOf n x s L) i : Int) + 1) = (arN (dgOf n x s L) i : Int) + 1 := by rw [w64_id] <;> omega
 simp [rd_def, h1, hi, hi', h3, intsC_get hlen, hv, hw]
theorem indexI_ {h : List O} {b n c : Nat} {xs : List Int} {v : Int} {el : TypeId} {own : Option Nat} (hb : h[b]? = some (.cells (intsC xs) el own)) (hn : xs.length = n) (hlt : n < 1000000) :
  DR E 211 [.slice (some ⟨b, 0, none⟩) n c, .int .i64 v] ⟨h, h.length⟩ (.ret (.int .i64 (firstI (fun j => decide (nth xs j = v)) n))) ⟨h, h.length⟩ := by
 refine hE.fn (body := rb211) rfl ?_
 unfold rb211
 simp
 refine DW_loop (fun kk fr st => ∃ (i : Nat), i + kk = n ∧ st = ⟨h, h.length⟩ ∧ (∀ j, j < i → nth xs j ≠ v) ∧ get fr 0 = .slice (some ⟨b, 0, none⟩) n c ∧ get fr 1 = .int .i64 v ∧ get fr 7 = .int .i64 n ∧ get fr 8 = .int .i64 i) ?_ (k := n) ?_
 ·rintro kk fr st ⟨i, hik, rfl, hm, g0, g1, g7, g8⟩
  by_cases hi : i < n
  ·have hw : IntKind.i64.wrap ((i : Int) + 1) = (i : Int) + 1 := by rw [w64_id] <;> omega
   have hi2 : i < xs.length := by omega
   by_cases hv : nth xs i = v
   ·have hv' : v = nth xs i := hv.symm
    have hf : firstI (fun j => decide (nth xs j = v)) n = i := firstI_found hi (by simp [hv]) (fun j hj => by simp [hm j hj])
    simp [g0, g1, g7, g8, hi, rd_def, hb, intsC_get hi2, hv', endK_ret]
    rw [hv'] at hf
    exact hf.symm
   ·have hv' : ¬ v = nth xs i := fun e => hv e.symm
    simp [g0, g1, g7, g8, hi, rd_def, hb, intsC_get hi2, hv', hw]
    refine ⟨kk - 1, by omega, i + 1, by omega, fun j hj => ?_, by omega⟩
    by_cases e : j = i
    ·rw [e]; exact hv
    ·exact hm j (by omega)
  ·have hin : i = n := by omega
   subst hin
   have hf : firstI (fun j => decide (nth xs j = v)) i = -1 := firstI_none (fun j hj => by simp [hm j hj])
   simp [g0, g1, g7, g8, endK_ret, hf]
 ·exact ⟨0, by omega, rfl, fun j h => by omega, by simp⟩
theorem first_ {h : List O} {pl n : Nat} {x : Nat → Nat → Int} {s : Nat → Int} {L : Int} (hl : LnkP h pl n x s L) (hn : n ≤ 200) (hL : 0 ≤ L ∧ L ≤ 200) {k : Int} (hk : 0 ≤ k ∧ k < cpK (dgOf n x s L) + L) :
  DR E 147 [.pointer (some ⟨pl, 0, none⟩), .int .i64 k] ⟨h, h.length⟩ (.ret (.tuple #[.int .i64 (fstA (dgOf n x s L) k), .int .i64 (merD (dgOf n x s L) k)])) ⟨h, h.length⟩ := by
 refine hE.fn (body := rb147) rfl ?_
 unfold rb147
 have hl' := hl
 obtain ⟨uv, xa, xc, ab, cb, mb, h1, h2, h3, h4, h5, hO, hk'⟩ := hl'
 unfold linkC at h1
 have hG : (dgOf n x s L).n = n := rfl
 have hi := indexI_ hE (v := k) (n := 2 * n) (c := 2 * n) h4 hO.len (by omega)
 obtain ⟨f, hf⟩ : ∃ f, f = firstI (fun j => decide (nth (cpL (dgOf n x s L)) j = k)) (2 * n) := ⟨_, rfl⟩
 have hfA : fstA (dgOf n x s L) k = f := by rw [hf]; rfl
 rw [← hf] at hi
 have hfl := fstA_lt (G := dgOf n x s L) (k := k)
 rw [hfA, hG] at hfl
 have hle := arC_le (dgOf n x s L)
 rw [hG] at hle
 unfold merD
 rw [hfA]
 by_cases h0 : 0 ≤ f
 ·obtain ⟨i, rfl⟩ : ∃ i : Nat, f = i := ⟨f.toNat, by omega⟩
  have hg := generator_ hE hl hn (i := i) (by omega)
  simp [rd_def, h1, DC_of hi, DC_of hg, endK_ret, back_scalar, Out.scalar, scalar, flat1, flat]
 ·have hf1 : f = -1 := by omega
  have hw1 : IntKind.i64.wrap ((arC (dgOf n x s L) : Int) + L - (cpK (dgOf n x s L) + L)) = (arC (dgOf n x s L) : Int) - cpK (dgOf n x s L) := by rw [w64_id] <;> omega
  have hw2 : IntKind.i64.wrap ((arC (dgOf n x s L) : Int) - cpK (dgOf n x s L) + k) = (arC (dgOf n x s L) : Int) - cpK (dgOf n x s L) + k := by rw [w64_id] <;> omega
  have hw3 : IntKind.i64.wrap ((arC (dgOf n x s L) : Int) - cpK (dgOf n x s L) + k + 1) = (arC (dgOf n x s L) : Int) - cpK (dgOf n x s L) + k + 1 := by rw [w64_id] <;> omega
  subst hf1
  simp [rd_def, h1, DC_of hi, endK_ret, hw1, hw2, hw3, back_scalar, Out.scalar, scalar, flat1, flat]
theorem meridian_ {h0 : List O} {a : Option Addr} {n c : Nat} {x : Nat → Nat → Int} {s : Nat → Int} {L : Int} (hx : CrossP h0 a n x s) (k : Int) :
  DR E 69 [dV a n c L, .int .i64 k] ⟨h0, h0.length⟩ (.ret (if kindD n x s L ≠ 0 then .tuple #[.int .i64 0, .int .i64 (kindD n x s L)] else if 0 ≤ k ∧ k < cpK (dgOf n x s L) + L then .tuple #[.int .i64 (merD (dgOf n x s L) k), .int .i64 0] else .tuple #[.int .i64 0, .int .i64 1])) ⟨h0, h0.length⟩ := by
 refine hE.fn (body := rb69) rfl ?_
 unfold rb69
 have hx1 : CrossP (h0 ++ [O.cells [.slice a n c, .int .i64 L] 24 (some 0)]) a n x s := hx.ext (Ext.snoc _ _)
 have h1 := check_ hE (c := c) (L := L) hx1
 simp [dV] at h1
 by_cases hk : kindD n x s L = 0
 ·have h2 := newLinkC_ hE (c := c) hx1 hk
  simp [dV] at h2
  have hS := (kind_zero hk).1
  simp [dV, rdN_at0, joined_fl, DC_of h1, hk]
  refine h2.imp ?_
  rintro o ⟨h3, f3⟩ ⟨pl, rfl, hp, hf, hs, hl⟩
  simp only at hf hs hl
  have hl' := hl
  obtain ⟨uv, xa, xc, ab, cb, mb, k1, k2, k3, k4, k5, hO, hk'⟩ := hl'
  unfold linkC at k1
  have hlen := hs.len
  simp at hlen
  by_cases c1 : 0 ≤ k
  ·have c1' : ¬ k < 0 := by omega
   by_cases c2 : k < cpK (dgOf n x s L) + L
   ·have c2' : ¬ (cpK (dgOf n x s L) : Int) + L ≤ k := by omega
    have hfi := first_ hE hl hS.size hS.loops ⟨c1, c2⟩
    simp [joined_fl, hf, rd_def, k1, bit, endK_ret, c1, c1', c2, c2', DC_of hfi, back_scalar, Out.scalar, scalar, flat1, flat]
   ·have c2' : (cpK (dgOf n x s L) : Int) + L ≤ k := by omega
    simp [joined_fl, hf, rd_def, k1, bit, endK_ret, c1, c1', c2, c2', back_scalar, Out.scalar, scalar, flat1, flat]
  ·have c1' : k < 0 := by omega
   simp [joined_fl, hf, rd_def, k1, bit, endK_ret, c1, c1', back_scalar, Out.scalar, scalar, flat1, flat]
 ·simp [dV, rdN_at0, joined_fl, DC_of h1, hk, endK_ret, back_scalar, Out.scalar, scalar, flat1, flat]
end Go.Proofs.Ytjlkndkedknocaa
namespace Go.Ai
theorem flat_len {v : Value} {a : Option Addr} {n c : Nat} (h : v = .slice a n c) (hf : flat v = true) : n = 0 := by
 subst h
 unfold flat at hf
 split at hf <;> first | rfl | (simp_all; done) | (rename_i e; cases e; rfl) | (cases hf)
theorem Mat.flat {h h' : List O} {v : Value} {A : List (List Int)} (hm : Mat h v A) (hf : Ai.flat v = true) : Mat h' v A := by
 obtain ⟨a, b, o, c, vs, h1, h2, h3, h4⟩ := hm
 have := flat_len h1 hf
 exact ⟨a, b, o, c, vs, h1, h2, fun i hi => by omega, h4⟩
theorem Ints.flat {h h' : List O} {v : Value} {A : List Int} (hm : Ints h v A) (hf : Ai.flat v = true) : Ints h' v A := by
 obtain ⟨a, b, o, c, h1, h2, h3, h4⟩ := hm
 have := flat_len h1 hf
 exact ⟨a, b, o, c, h1, h2, fun i hi => by omega, h4⟩
def MatN (h : List O) (lo : Nat) (v : Value) (A : List (List Int)) : Prop := ∀ h' : List O, (∀ (b : Nat) (o : O), lo ≤ b → h[b]? = some o → h'[b]? = some o) → Mat h' v A
theorem MatN.mat {h : List O} {lo : Nat} {v : Value} {A : List (List Int)} (k : MatN h lo v A) : Mat h v A := k h fun _ _ _ hb => hb
theorem MatN.low {h : List O} {lo lo' : Nat} {v : Value} {A : List (List Int)} (k : MatN h lo v A) (hl : lo' ≤ lo) : MatN h lo' v A := fun h' hk => k h' fun b o hb => hk b o (by omega)
end Go.Ai
namespace Go.Proofs.Ytjlkndkedknocaa
open Go Go.Ai
attribute [local instance] Classical.propDecidable
noncomputable def gen (G : Dg) (a : Nat) : Int := arN G a + 1
noncomputable def relOf (G : Dg) (i : Nat) : List Int := [-(gen G (G.X i 1)) * G.s i, gen G (G.X i 0), gen G (G.X i 1) * G.s i, -(gen G (G.X i 2))]
noncomputable def relL (G : Dg) : List (List Int) := (List.range G.n).map (relOf G)
theorem relL_length (G : Dg) : (relL G).length = G.n := by simp [relL]
theorem relL_nth {G : Dg} {i : Nat} (h : i < G.n) : nthR (relL G) i = relOf G i := by simp [relL, nthR, h]
theorem gen_le {G : Dg} (hG : GoodG G) {i q : Nat} (hi : i < G.n) (hq : q < 4) : 1 ≤ gen G (G.X i q) ∧ gen G (G.X i q) ≤ arC G := by
 have := arN_lt (hG.X i q hi hq)
 unfold gen
 omega
theorem relOf_small {G : Dg} (hG : GoodG G) {i : Nat} (hi : i < G.n) (j : Nat) : -1000 ≤ nth (relOf G i) j ∧ nth (relOf G i) j ≤ 1000 := by
 have h0 := gen_le hG hi (show 0 < 4 by omega)
 have h1 := gen_le hG hi (show 1 < 4 by omega)
 have h2 := gen_le hG hi (show 2 < 4 by omega)
 have hc := arC_le G
 have hs := hG.size
 unfold relOf
 match j with
 | 0 => rcases hG.sign i hi with e | e <;> simp [nth, e] <;> omega
 | 1 => simp [nth]; omega
 | 2 => rcases hG.sign i hi with e | e <;> simp [nth, e] <;> omega
 | 3 => simp [nth]; omega
 | j + 4 => simp [nth]
def RelsI (h : List O) (lo : Nat) (G : Dg) (i : Nat) (vs : List Value) : Prop :=
 ∀ q, q < i → ∃ b, vs[q]? = some (.slice (some ⟨b, 0, none⟩) 4 4) ∧ lo ≤ b ∧ h[b]? = some (.cells (intsC (relOf G q)) 3 (some 0))
variable {E : Env} (hE : OE E)
include hE
theorem presentation_ {h0 : List O} {pl n : Nat} {x : Nat → Nat → Int} {s : Nat → Int} {L : Int} (hl : LnkP h0 pl n x s L) (hS : Snd n x s L) :
  DC E 131 [.pointer (some ⟨pl, 0, none⟩)] ⟨h0, h0.length⟩ fun o st' => ∃ v, o = .ret (.agg #[.int .i64 (arC (dgOf n x s L) + L), v]) ∧ Sub h0 st'.h ∧ h0.length ≤ st'.fl ∧ MatN st'.h h0.length v (relL (dgOf n x s L)) := by
 refine hE.fnC (body := rb131) rfl ?_
 unfold rb131
 have hsz := hS.size
 obtain ⟨G, hGe⟩ : ∃ G, G = dgOf n x s L := ⟨_, rfl⟩
 have hG : GoodG G := by rw [hGe]; exact good_of hS
 have hGn : G.n = n := by rw [hGe]; rfl
 have hGs : G.s = s := by rw [hGe]; rfl
 have hX : ∀ i q, i < n → q < 4 → x i q = (G.X i q : Int) := fun i q hi hq => by rw [hGe]; exact sound_x hS hi hq
 have hXlt : ∀ i q, i < n → q < 4 → G.X i q < 2 * n := fun i q hi hq => by rw [← hGn]; exact hG.X i q (by rw [hGn]; exact hi) hq
 have hl' := hl
 obtain ⟨uv0, xa, xc, ab, cb, mb, k1, hx, k3, k4, k5, hO, hk'⟩ := hl'
 unfold linkC at k1
 have hk1 : ∀ l, (h0 ++ l)[pl]? = _ := fun l => app_of k1 l
 have hpl := (List.getElem?_eq_some_iff.1 k1).1
 simp [rd_def, hk1, wrN_at0, wrN_at, set_at, set_at0, List.append_assoc]
 rw [← hGe]
 refine DW_loop (fun kk fr st => ∃ (i : Nat) (h : List O) (uv : Value) (vs : List Value), i + kk = n ∧ st = ⟨h, h0.length⟩ ∧ Sub h0 h ∧ AtB h h0.length (.cells [.int .i64 0, .slice none 0 0] 81 (some 0)) ∧ AtB h (h0.length + 1) (.cells [.int .i64 (arC G + L), uv] 81 (some 0)) ∧
  OwnS h (h0.length + 2) uv i vs 34 1 ∧ RelsI h (h0.length + 2) G i vs ∧
  get fr 0 = .pointer (some ⟨pl, 0, none⟩) ∧ get fr 2 = .pointer (some ⟨h0.length, 0, none⟩) ∧ get fr 3 = .pointer (some ⟨h0.length + 1, 0, none⟩) ∧ get fr 18 = .slice xa n xc ∧ get fr 19 = .int .i64 n ∧ get fr 20 = .int .i64 i) ?_ (k := n) ?_
 ·rintro kk fr st ⟨i, h, uv, vs, hik, rfl, hsub, a2, a3, hu, hR, g0, g2, g3, g18, g19, g20⟩
  have b2 := a2
  have b3 := a3
  unfold AtB at b2 b3
  have hl3 := (List.getElem?_eq_some_iff.1 b3).1
  have hmin : min h0.length (h0.length + 1) = h0.length := by omega
  by_cases hi : i < n
  ·have hw : IntKind.i64.wrap ((i : Int) + 1) = (i : Int) + 1 := by rw [w64_id] <;> omega
   obtain ⟨xb, xo, hxa, hxr⟩ := hx
   obtain rfl := hxa (by omega)
   have hcr : rdN h xb (xo + i * 5) 5 = some (crossC (x i) (s i)) := hsub.rdN (hxr i hi)
   rw [rdN_def] at hcr
   simp only [crossC] at hcr
   rw [hX i 0 hi (by omega), hX i 1 hi (by omega), hX i 2 hi (by omega), hX i 3 hi (by omega)] at hcr
   obtain ⟨H, hH⟩ : ∃ H, H = h ++ [O.cells [.int .i64 (G.X i 0), .int .i64 (G.X i 1), .int .i64 (G.X i 2), .int .i64 (G.X i 3), .int .i64 (s i)] 107 (some 0)] := ⟨_, rfl⟩
   have hpc : H[h.length]? = some (O.cells [.int .i64 (G.X i 0), .int .i64 (G.X i 1), .int .i64 (G.X i 2), .int .i64 (G.X i 3), .int .i64 (s i)] 107 (some 0)) := by rw [hH, app_at0]; rfl
   have hlH : H.length = h.length + 1 := by rw [hH]; simp
   have hsH : Sub h0 H := by rw [hH]; exact hsub.app _
   have hg := fun q (hq : q < 4) => generator_ hE (hl.sub hsH) hsz (hXlt i q hi hq)
   rw [← hGe] at hg
   have hgv : ∀ q, q < 4 → 1 ≤ gen G (G.X i q) ∧ gen G (G.X i q) ≤ 1000 := fun q hq => by
    have h1 := gen_le hG (by rw [hGn]; exact hi) hq
    have h2 := arC_le G
    rw [hGn] at h2
    omega
   have hgq : ∀ q, q < 4 → (arN G (G.X i q) : Int) + 1 = gen G (G.X i q) := fun q hq => rfl
   have hg0 := hg 0 (by omega)
   have hg1 := hg 1 (by omega)
   have hg2 := hg 2 (by omega)
   rw [hgq 0 (by omega)] at hg0
   rw [hgq 1 (by omega)] at hg1
   rw [hgq 2 (by omega)] at hg2
   have v0 := hgv 0 (by omega)
   have v1 := hgv 1 (by omega)
   have v2 := hgv 2 (by omega)
   have hrel : relOf G i = [-(gen G (G.X i 1)) * s i, gen G (G.X i 0), gen G (G.X i 1) * s i, -(gen G (G.X i 2))] := by unfold relOf; rw [hGs]
   have w1 : IntKind.i64.wrap (IntKind.i64.wrap (-gen G (G.X i 1)) * s i) = -(gen G (G.X i 1)) * s i := by
    rcases hS.sign i hi with e | e <;> rw [e] <;> rw [w64_id (x := -_) (by omega) (by omega)] <;> rw [w64_id] <;> omega
   have w2 : IntKind.i64.wrap (gen G (G.X i 1) * s i) = gen G (G.X i 1) * s i := by
    rcases hS.sign i hi with e | e <;> rw [e] <;> rw [w64_id] <;> omega
   have w3 : IntKind.i64.wrap (-gen G (G.X i 2)) = -(gen G (G.X i 2)) := by rw [w64_id] <;> omega
   have hpc0 : H[h.length]? = some (O.cells [.int .i64 (G.X i 0), .int .i64 (G.X i 1), .int .i64 (G.X i 2), .int .i64 (G.X i 3), .int .i64 (s i)] 107 (some 0)) := hpc
   obtain ⟨H2, hH2⟩ : ∃ H2, H2 = H ++ [O.cells (intsC (relOf G i)) 3 (some 0)] := ⟨_, rfl⟩
   have hH2' : H2 = H ++ [O.cells [.int .i64 (-(gen G (G.X i 1)) * s i), .int .i64 (gen G (G.X i 0)), .int .i64 (gen G (G.X i 1) * s i), .int .i64 (-(gen G (G.X i 2)))] 3 (some 0)] := by rw [hH2, hrel]; rfl
   have hl2 : H2.length = H.length + 1 := by rw [hH2]; simp
   have b3H : H[h0.length + 1]? = some (.cells [.int .i64 (arC G + L), uv] 81 (some 0)) := by rw [hH]; exact app_of b3 _
   have hmin2 : min h0.length h.length = h0.length := by omega
   have hE2 : Ext h H2 := by rw [hH2, hH]; exact (Ext.snoc _ _).trans (Ext.snoc _ _)
   have hu2 : OwnS (H2 ++ [.cells [.slice (some ⟨H.length, 0, none⟩) 4 4] 34 (some 0)]) (h0.length + 2) uv i vs 34 1 := hu.ext (hE2.trans (Ext.snoc _ _))
   have hread : readSlice (H2 ++ [.cells [.slice (some ⟨H.length, 0, none⟩) 4 4] 34 (some 0)]) 1 1 (some ⟨H2.length, 0, none⟩) = some [.slice (some ⟨H.length, 0, none⟩) 4 4] := by simp [readSlice, rdN_at0]
   obtain ⟨b', H4, f4, happ, hb', hown, hf1, hf2, hL4, K4⟩ := append_S (fl := h0.length) (c := 1) (bytes := 24) hu2 hread (by simp) (by simp) (by simp [hl2]; omega) (by simp only [roomMax]; omega) (by omega)
   obtain rfl : f4 = h0.length := by omega
   have hne : ∀ (b : Nat), b < h0.length + 2 → ∀ n' c', uv ≠ .slice (some ⟨b, 0, none⟩) n' c' := fun b hb n' c' e => by
    rcases hu.2 with ⟨h1, _⟩ | ⟨b2, s2, h1, h2, _⟩
    ·rw [e] at h1; cases h1
    ·rw [e] at h1
     simp only [Value.slice.injEq, Option.some.injEq, Addr.mk.injEq] at h1
     omega
   have hnei : ∀ (b : Nat) (cs : List Value) (ow : Option Nat), H2[b]? = some (.cells cs 3 ow) → ∀ n' c', uv ≠ .slice (some ⟨b, 0, none⟩) n' c' := fun b cs ow hb n' c' e => by
    rcases hu.2 with ⟨h1, _⟩ | ⟨b2, s2, h1, h2, h3, _⟩
    ·rw [e] at h1; cases h1
    ·rw [e] at h1
     simp only [Value.slice.injEq, Option.some.injEq, Addr.mk.injEq] at h1
     obtain ⟨l, hl⟩ := hE2
     rw [h1.1.1, hl, app_of h3] at hb
     cases hb
   have kB : ∀ (b : Nat) (o : O), h[b]? = some o → (∀ n' c', uv ≠ .slice (some ⟨b, 0, none⟩) n' c') → H4[b]? = some o := fun b o hb hn => by
    obtain ⟨l, hl⟩ := hE2
    exact K4 b o (by rw [hl, List.append_assoc]; exact app_of hb _) hn
   have k3' := kB _ _ b3 (hne _ (by omega))
   rw [hl2] at happ
   have happ2 := happ
   simp only [hH2', List.append_assoc, List.cons_append, List.nil_append] at happ2
   simp [g0, g2, g3, g18, g19, g20, hi, rdN_def, hcr, wrN_at0, set_at0, app_at0, ← hH, ← hlH, hpc, DC_of hg0, DC_of hg1, DC_of hg2, bit, rd_def, w1, w2, w3, hmin2, b3H, happ2, wrN_def, k3', hmin, hw]
   refine ⟨kk - 1, by omega, i + 1, by omega, fun b o hb => ?_, ?_, .slice (some ⟨b', 0, none⟩) (i + 1) (i + 1), ?_, vs ++ [.slice (some ⟨H.length, 0, none⟩) 4 4], ?_, fun q hq => ?_, by omega⟩
   ·have hbl := (List.getElem?_eq_some_iff.1 hb).1
    exact set_ne (kB b o (hsub b o hb) (hne _ (by omega))) (by omega)
   ·exact set_ne (kB _ _ b2 (hne _ (by omega))) (by omega)
   ·exact set_self k3'
   ·exact hown.keep fun b s' e1 e2 => set_ne e2 (by
     simp at e1 hb'
     omega)
   ·by_cases e : q < i
    ·obtain ⟨b, r1, r2, r3⟩ := hR q e
     have hvl : vs.length = i := by have := hu.1; omega
     refine ⟨b, by rw [List.getElem?_append_left (by omega)]; exact r1, r2, set_ne (kB b _ r3 (hnei b (intsC (relOf G q)) (some 0) ?_)) (by omega)⟩
     obtain ⟨l, hl⟩ := hE2
     rw [hl]; exact app_of r3 _
    ·have hqi : q = i := by omega
     subst hqi
     have hvl : vs.length = q := by have := hu.1; omega
     have hin : H2[H.length]? = some (O.cells (intsC (relOf G q)) 3 (some 0)) := by rw [hH2, app_at0]; rfl
     refine ⟨H.length, by rw [List.getElem?_append_right (by omega), hvl]; simp, by omega, set_ne (K4 _ _ (app_of hin _) (hnei _ _ _ hin)) (by omega)⟩
  ·have hin : i = n := by omega
   subst hin
   have hne2 : ¬ h0.length + 1 = h0.length := by omega
   have b2s := fun o => set_self (x := o) b2
   have hone : one1 uv = true := by rcases hu.2 with ⟨h1, _⟩ | ⟨b, su, h1, _⟩ <;> rw [h1] <;> rfl
   simp [g0, g2, g3, g18, g19, g20, rdN_def, b3, wrN_def, b2, b2s, hone]
   unfold pairQ back
   have hvl : vs.length = i := by have := hu.1; omega
   have hM : ∀ h', (∀ (b : Nat) (o : O), h0.length + 2 ≤ b → h[b]? = some o → h'[b]? = some o) → Mat h' uv (relL G) := fun h' hk => by
    have hi200 : (relL G).length = i := by rw [relL_length, hGn]
    rcases hu.2 with ⟨h1, h2⟩ | ⟨b, su, h1, h2, h3, _⟩
    ·have : relL G = [] := List.length_eq_zero_iff.1 (by omega)
     rw [h1, this]
     exact ⟨none, 0, 0, 0, fun _ => undef, rfl, fun h => absurd h (by simp), fun i hi => absurd hi (by simp), by simp⟩
    ·refine ⟨some ⟨b, 0, none⟩, b, 0, i, fun q => (vs[q]?).getD undef, by rw [h1, hi200], fun _ => rfl, fun q hq => ?_, by omega⟩
     obtain ⟨b', r1, r2, r3⟩ := hR q (by omega)
     have h3' := hk _ _ (by omega) h3
     have r3' := hk _ _ r2 r3
     refine ⟨by rw [rd_def, h3']; simp [r1], ?_⟩
     rw [relL_nth (by omega)]
     simp only [r1, Option.getD_some]
     refine ⟨some ⟨b', 0, none⟩, b', 0, 4, rfl, fun _ => rfl, fun j hj => ?_, fun j => ?_, ?_⟩
     ·rw [rd_def, r3']
      simp only [rdO_cells, Nat.zero_add]
      exact intsC_get hj
     ·have := relOf_small hG (i := q) (by omega) j
      constructor <;> omega
     ·simp [relOf]
   have hM0 := hM h fun _ _ _ hb => hb
   split
   ·rename_i hc
    refine ⟨_, rfl, Sub.refl _, Nat.le_refl _, fun h' _ => Mat.flat hM0 ?_⟩
    simp [Out.scalar, scalar, flat1] at hc
    exact hc.2
   ·exact ⟨_, rfl, (hsub.set (Nat.le_refl _) _), Nat.le_refl _, fun h' hk => hM h' fun b o hb ho => hk b o (by omega) (set_ne ho (by omega))⟩
 ·refine ⟨0, _, .slice none 0 0, [], by omega, rfl, (Sub.refl h0).app _, ?_, ?_, OwnS.nil _ _ _ _, fun q hq => by omega, by simp⟩
  ·unfold AtB; rw [app_at0]; rfl
  ·unfold AtB; rw [app_at, hGe]; simp
end Go.Proofs.Ytjlkndkedknocaa
namespace Go.Ai
attribute [local instance] Classical.propDecidable
def invN (f : List Int) : Nat → List Int
 | 0 => List.replicate f.length 0
 | i + 1 => (invN f i).set (nth f i).toNat i
def invL (f : List Int) : List Int := invN f f.length
theorem invN_length (f : List Int) : ∀ i, (invN f i).length = f.length := by
 intro i
 induction i with
 | zero => simp [invN]
 | succ i ih => simp [invN, ih]
theorem invL_length (f : List Int) : (invL f).length = f.length := invN_length f _
def InN (n : Nat) (f : List Int) : Prop := ∀ i, i < f.length → 0 ≤ nth f i ∧ nth f i < n
structure PermL (n : Nat) (f : List Int) : Prop where
 len : f.length = n
 rng : InN n f
 inj : ∀ i j, i < j → j < n → nth f i ≠ nth f j
theorem invN_at {n : Nat} {f : List Int} (h : PermL n f) : ∀ k, k ≤ n → ∀ i, i < k → nth (invN f k) (nth f i).toNat = i := by
 intro k
 induction k with
 | zero => intro _ i hi; omega
 | succ k ih =>
  intro hk i hi
  have hl := invN_length f k
  have hlen := h.len
  have rk := h.rng k (by omega)
  have ri := h.rng i (by omega)
  simp only [invN]
  rw [nth_set (by omega)]
  by_cases e : i = k
  ·rw [e, if_pos rfl]
  ·have hne := h.inj i k (by omega) (by omega)
   rw [if_neg (by omega)]
   exact ih (by omega) i (by omega)
theorem invL_at {n : Nat} {f : List Int} (h : PermL n f) {i : Nat} (hi : i < n) : nth (invL f) (nth f i).toNat = i := by
 unfold invL
 rw [h.len]
 exact invN_at h n (Nat.le_refl _) i hi
theorem PermL.onto {n : Nat} {f : List Int} (h : PermL n f) {v : Nat} (hv : v < n) : ∃ i, i < n ∧ nth f i = v := by
 obtain ⟨i, h1, h2⟩ := Go.Proofs.Ytjlkndkedknocaa.onto n (fun i => (nth f i).toNat) (fun i hi => by have := h.rng i (by rw [h.len]; exact hi); omega) (fun i j hij hj e => by
  have a := h.rng i (by rw [h.len]; omega)
  have b := h.rng j (by rw [h.len]; omega)
  have e' : (nth f i).toNat = (nth f j).toNat := e
  exact h.inj i j hij hj (by omega)) v hv
 have := h.rng i (by rw [h.len]; exact h1)
 exact ⟨i, h1, by have h2' : (nth f i).toNat = v := h2; omega⟩
theorem PermL.inv {n : Nat} {f : List Int} (h : PermL n f) : PermL n (invL f) := by
 have hl : (invL f).length = n := by rw [invL_length, h.len]
 have key : ∀ v, v < n → ∃ i, i < n ∧ nth f i = v ∧ nth (invL f) v = i := fun v hv => by
  obtain ⟨i, h1, h2⟩ := h.onto hv
  refine ⟨i, h1, h2, ?_⟩
  have := invL_at h h1
  rw [h2] at this
  exact this
 refine ⟨hl, fun v hv => ?_, fun u v huv hv e => ?_⟩
 ·obtain ⟨i, h1, h2, h3⟩ := key v (by omega)
  rw [h3]; omega
 ·obtain ⟨i, h1, h2, h3⟩ := key u (by omega)
  obtain ⟨j, h4, h5, h6⟩ := key v hv
  rw [h3, h6] at e
  have : i = j := by omega
  subst this
  omega
def actL (A B : List (List Int)) (p : Int) (y : Int) : Int := if 0 < y then nth (nthR A (y - 1).toNat) p.toNat else nth (nthR B (-y - 1).toNat) p.toNat
def actW (A B : List (List Int)) (w : List Int) (p : Int) : Int := w.foldl (actL A B) p
def actN (A B : List (List Int)) (w : List Int) (p : Int) : Nat → Int
 | 0 => p
 | j + 1 => actL A B (actN A B w p j) (nth w j)
theorem actW_eq (A B : List (List Int)) (w : List Int) (p : Int) : actW A B w p = actN A B w p w.length := by
 have key : ∀ j, j ≤ w.length → (w.take j).foldl (actL A B) p = actN A B w p j := by
  intro j
  induction j with
  | zero => intro _; rfl
  | succ j ih =>
   intro hj
   have e : w.take (j + 1) = w.take j ++ [nth w j] := by rw [List.take_add_one, List.getElem?_eq_getElem (by omega), nth_eq (by omega)]; rfl
   rw [e, List.foldl_append, ih (by omega)]
   rfl
 have := key w.length (Nat.le_refl _)
 rw [List.take_length] at this
 exact this
def RowsOk (n : Nat) (A : List (List Int)) : Prop := ∀ k, k < A.length → (nthR A k).length = n ∧ InN n (nthR A k)
def LetOk (g : Nat) (w : List Int) : Prop := ∀ j, j < w.length → nth w j ≠ 0 ∧ -(g : Int) ≤ nth w j ∧ nth w j ≤ g
theorem actN_in {A B : List (List Int)} {w : List Int} {n : Nat} (hA : RowsOk n A) (hB : RowsOk n B) (hw : LetOk A.length w) (hl : B.length = A.length) {p : Int} (hp : 0 ≤ p ∧ p < n) : ∀ j, j ≤ w.length → 0 ≤ actN A B w p j ∧ actN A B w p j < n := by
 intro j
 induction j with
 | zero => intro _; exact hp
 | succ j ih =>
  intro hj
  have h1 := ih (by omega)
  have h2 := hw j (by omega)
  simp only [actN, actL]
  split
  ·have h3 := hA (nth w j - 1).toNat (by omega)
   exact h3.2 _ (by rw [h3.1]; omega)
  ·have h3 := hB (-nth w j - 1).toNat (by omega)
   exact h3.2 _ (by rw [h3.1]; omega)
def TrivL (A B : List (List Int)) (w : List Int) (n : Nat) : Prop := ∀ i : Nat, i < n → actW A B w i = i
theorem Ints.at {h : List O} {v : Value} {xs : List Int} (hi : Ints h v xs) : ∃ a b o c, v = .slice a xs.length c ∧ (0 < xs.length → a = some ⟨b, o, none⟩) ∧ (∀ i, i < xs.length → rdO h[b]? (o + i) = some (.int .i64 (nth xs i))) := by
 obtain ⟨a, b, o, c, h1, h2, h3, _⟩ := hi
 exact ⟨a, b, o, c, h1, h2, fun i hi => by rw [← rd_def]; exact h3 i hi⟩
theorem Mat.at {h : List O} {v : Value} {A : List (List Int)} (hm : Mat h v A) : ∃ a b o c, ∃ vs : Nat → Value, v = .slice a A.length c ∧ (0 < A.length → a = some ⟨b, o, none⟩) ∧ (∀ i, i < A.length → rdO h[b]? (o + i) = some (vs i) ∧ Ints h (vs i) (nthR A i)) := by
 obtain ⟨a, b, o, c, vs, h1, h2, h3, _⟩ := hm
 exact ⟨a, b, o, c, vs, h1, h2, fun i hi => by rw [← rd_def]; exact h3 i hi⟩
end Go.Ai
namespace Go.Proofs.Ytjlkndkedknocaa
open Go Go.Ai
attribute [local instance] Classical.propDecidable
variable {E : Env} (hE : OE E)
include hE
theorem inverse_ {h : List O} {v : Value} {f : List Int} (hv : Ints h v f) (hr : InN f.length f) (hs : f.length ≤ 100000) :
  DR E 145 [v] ⟨h, h.length⟩ (.ret (.slice (some ⟨h.length, 0, none⟩) f.length f.length)) ⟨h ++ [.cells (intsC (invL f)) 3 (some 0)], h.length⟩ := by
 refine hE.fn (body := rb145) rfl ?_
 unfold rb145
 obtain ⟨a, b, o, c, rfl, ha, hrd⟩ := hv.at
 have e1 : (f.length : Int) * 8 ≤ 140737488355328 := by omega
 have e2 : (f.length : Int) < 4611686018427387904 := by omega
 simp [e1, e2]
 refine DW_loop (fun kk fr st => ∃ (i : Nat), i + kk = f.length ∧ st = ⟨h ++ [.cells (intsC (invN f i)) 3 (some 0)], h.length⟩ ∧ get fr 3 = .slice (some ⟨h.length, 0, none⟩) f.length f.length ∧ get fr 9 = .slice a f.length c ∧ get fr 10 = .int .i64 f.length ∧ get fr 11 = .int .i64 i) ?_ (k := f.length) ?_
 ·rintro kk fr st ⟨i, hik, rfl, g3, g9, g10, g11⟩
  by_cases hi : i < f.length
  ·have hw : IntKind.i64.wrap ((i : Int) + 1) = (i : Int) + 1 := by rw [w64_id] <;> omega
   obtain rfl := ha (by omega)
   have hbl : b < h.length := by
    have := hrd i hi
    unfold rdO at this
    split at this
    ·rename_i hb; exact (List.getElem?_eq_some_iff.1 hb).1
    ·cases this
   have hrd' : ∀ l, rdO (h ++ l)[b]? (o + i) = some (.int .i64 (nth f i)) := fun l => by rw [List.getElem?_append_left hbl]; exact hrd i hi
   have hri := hr i hi
   obtain ⟨y, hy⟩ : ∃ y : Nat, nth f i = y := ⟨(nth f i).toNat, by omega⟩
   have hyl : y < f.length := by omega
   have hil := invN_length f i
   have hyl2 : y + 1 ≤ (invN f i).length := by omega
   have hiN : (invN f i).set y i = invN f (i + 1) := by simp only [invN, hy]; rfl
   simp [g3, g9, g10, g11, hi, rd_def, hrd', hy, hyl, wrN_at0, hyl2, intsC_set, set_at0, hiN, hw]
   exact ⟨kk - 1, by omega, i + 1, by omega, rfl, by omega⟩
  ·have hin : i = f.length := by omega
   subst hin
   simp [g3, g9, g10, g11, endK_ret]
   unfold pairQ back
   rw [if_neg (by simp [Out.scalar, scalar, flat1, flat])]
   exact ⟨rfl, rfl⟩
 ·exact ⟨0, by omega, by simp [rep, intsC, invN], by simp⟩
theorem isTrivial_ {h : List O} {va vb vw : Value} {A B : List (List Int)} {w : List Int} {n : Nat} (hA : Mat h va A) (hB : Mat h vb B) (hw : Ints h vw w) (rA : RowsOk n A) (rB : RowsOk n B) (hl : B.length = A.length) (hL : LetOk A.length w) (hs : A.length ≤ 100000 ∧ n ≤ 100000) :
  DR E 146 [va, vb, vw, .int .i64 n] ⟨h, h.length⟩ (.ret (.bool (decide (TrivL A B w n)))) ⟨h, h.length⟩ := by
 refine hE.fn (body := rb146) rfl ?_
 unfold rb146
 obtain ⟨aa, ab, ao, ac, avs, rfl, ha, har⟩ := hA.at
 obtain ⟨ba, bb, bo, bc, bvs, rfl, hb, hbr⟩ := hB.at
 obtain ⟨wa, wb, wo, wc, rfl, hwa, hwr⟩ := hw.at
 have hwlen : w.length < 2 ^ 62 := by obtain ⟨_, _, _, _, _, _, _, _, h5⟩ := hw; exact h5
 simp
 refine DW_loop (fun kk fr st => ∃ (i : Nat), i + kk = n ∧ st = ⟨h, h.length⟩ ∧ (∀ i', i' < i → actW A B w i' = i') ∧ get fr 0 = .slice aa A.length ac ∧ get fr 1 = .slice ba B.length bc ∧ get fr 2 = .slice wa w.length wc ∧ get fr 13 = .int .i64 n ∧ get fr 14 = .int .i64 i) ?_ (k := n) ?_
 ·rintro kk fr st ⟨i, hik, rfl, hd, g0, g1, g2, g13, g14⟩
  by_cases hi : i < n
  ·have hwi : IntKind.i64.wrap ((i : Int) + 1) = (i : Int) + 1 := by rw [w64_id] <;> omega
   simp [g0, g1, g2, g13, g14, hi]
   refine DW_loop (fun kk' fr st => ∃ (j : Nat), j + kk' = w.length ∧ st = ⟨h, h.length⟩ ∧ get fr 0 = .slice aa A.length ac ∧ get fr 1 = .slice ba B.length bc ∧ get fr 2 = .slice wa w.length wc ∧ get fr 13 = .int .i64 n ∧ get fr 14 = .int .i64 i ∧ get fr 9 = .int .i64 i ∧ get fr 10 = .int .i64 (actN A B w i j) ∧ get fr 18 = .slice wa w.length wc ∧ get fr 19 = .int .i64 w.length ∧ get fr 20 = .int .i64 j) ?_ (k := w.length) ?_
   ·clear g0 g1 g2 g13 g14
    rintro kk' fr st ⟨j, hjk, rfl, g0, g1, g2, g13, g14, g9, g10, g18, g19, g20⟩
    by_cases hj : j < w.length
    ·have hwj : IntKind.i64.wrap ((j : Int) + 1) = (j : Int) + 1 := by rw [w64_id] <;> omega
     obtain rfl := hwa (by omega)
     have hin := actN_in rA rB hL hl (p := i) (by omega) j (by omega)
     obtain ⟨p, hp⟩ : ∃ p : Nat, actN A B w i j = p := ⟨(actN A B w i j).toNat, by omega⟩
     have hlt := hL j hj
     rw [hp] at g10 hin
     by_cases hpos : 0 < nth w j
     ·obtain ⟨y, hy⟩ : ∃ y : Nat, nth w j - 1 = y := ⟨(nth w j - 1).toNat, by omega⟩
      have hwy : IntKind.i64.wrap (nth w j - 1) = y := by rw [w64_id] <;> omega
      have hyl : y < A.length := by omega
      obtain rfl := ha (by omega)
      obtain ⟨r1, r2⟩ := har y hyl
      have hrow := rA y hyl
      obtain ⟨ra, rb, ro, rc, hrv, hra, hrr⟩ := r2.at
      obtain rfl := hra (by omega)
      have hpl : p < (nthR A y).length := by omega
      rw [hrv] at r1
      have hnext : actN A B w i (j + 1) = nth (nthR A y) p := by
       simp only [actN, actL, hp]
       rw [if_pos hpos, hy]
       simp
      simp [g0, g1, g2, g13, g14, g9, g10, g18, g19, g20, hj, rd_def, hwr j hj, hpos, hwy, hyl, r1, hpl, hrr p hpl, hwj]
      exact ⟨kk' - 1, by omega, j + 1, by omega, hnext.symm, by omega⟩
     ·obtain ⟨y, hy⟩ : ∃ y : Nat, -nth w j - 1 = y := ⟨(-nth w j - 1).toNat, by omega⟩
      have hwn : IntKind.i64.wrap (-nth w j) = -nth w j := by rw [w64_id] <;> omega
      have hwy : IntKind.i64.wrap (-nth w j - 1) = y := by rw [w64_id] <;> omega
      have hyl : y < B.length := by omega
      obtain rfl := hb (by omega)
      obtain ⟨r1, r2⟩ := hbr y hyl
      have hrow := rB y hyl
      obtain ⟨ra, rb, ro, rc, hrv, hra, hrr⟩ := r2.at
      obtain rfl := hra (by omega)
      have hpl : p < (nthR B y).length := by omega
      rw [hrv] at r1
      have hnext : actN A B w i (j + 1) = nth (nthR B y) p := by
       simp only [actN, actL, hp]
       rw [if_neg hpos, hy]
       simp
      simp [g0, g1, g2, g13, g14, g9, g10, g18, g19, g20, hj, rd_def, hwr j hj, hpos, hwn, hwy, hyl, r1, hpl, hrr p hpl, hwj]
      exact ⟨kk' - 1, by omega, j + 1, by omega, hnext.symm, by omega⟩
    ·have hjw : j = w.length := by omega
     subst hjw
     rw [← actW_eq] at g10
     by_cases he : actW A B w i = i
     ·simp [g0, g1, g2, g13, g14, g9, g10, g18, g19, g20, he, hwi]
      refine ⟨kk - 1, by omega, i + 1, by omega, fun i' hi' => ?_, by omega⟩
      by_cases e : i' = i
      ·rw [e]; exact he
      ·exact hd i' (by omega)
     ·have hnt : ¬ TrivL A B w n := fun ht => he (ht i hi)
      simp [g0, g1, g2, g13, g14, g9, g10, g18, g19, g20, he, hnt, endK_ret]
   ·exact ⟨0, by omega, rfl, by simp [g0, g1, g2, g13, g14, actN]⟩
  ·have hin : i = n := by omega
   subst hin
   have ht : TrivL A B w i := hd
   simp [g0, g1, g2, g13, g14, ht, endK_ret]
 ·exact ⟨0, by omega, rfl, fun i' h => by omega, by simp⟩
end Go.Proofs.Ytjlkndkedknocaa
namespace Go.Ai
def boolsC (bs : List Bool) : List Value := bs.map .bool
def bnth (bs : List Bool) (i : Nat) : Bool := bs.getD i false
@[simp] theorem boolsC_length (bs : List Bool) : (boolsC bs).length = bs.length := by simp [boolsC]
theorem boolsC_get {bs : List Bool} {i : Nat} (hi : i < bs.length) : (boolsC bs)[i]? = some (.bool (bnth bs i)) := by simp [boolsC, hi, bnth]
@[simp] theorem boolsC_getElem {bs : List Bool} {i : Nat} (h : i < (boolsC bs).length) : (boolsC bs)[i] = .bool (bnth bs i) := by
 have h' : i < bs.length := by simpa using h
 simp [boolsC, bnth, h']
theorem boolsC_set (bs : List Bool) (i : Nat) (x : Bool) : (boolsC bs).set i (.bool x) = boolsC (bs.set i x) := by simp [boolsC, List.map_set]
theorem bnth_set {bs : List Bool} {i j : Nat} {x : Bool} (hi : i < bs.length) : bnth (bs.set i x) j = if j = i then x else bnth bs j := by
 unfold bnth
 by_cases h : j = i
 ·subst h; simp [hi]
 ·rw [if_neg h, List.getD_eq_getElem?_getD, List.getElem?_set_ne (Ne.symm h), ← List.getD_eq_getElem?_getD]
theorem bnth_rep {n i : Nat} {x : Bool} (hi : i < n) : bnth (List.replicate n x) i = x := by simp [bnth, hi]
end Go.Ai
namespace Go.Proofs.Ytjlkndkedknocaa
open Go Go.Ai
attribute [local instance] Classical.propDecidable
def MixG (G : Dg) : Prop := G.n ≠ 0 ∧ G.L = 0 ∧ (regs G).length = G.n + 2 ∧ ∀ a, a < 2 * G.n → (∃ c, c < G.n ∧ SameC G (G.X c 0) a) ∧ ∃ c, c < G.n ∧ SameC G (G.X c 1) a
variable {E : Env} (hE : OE E)
include hE
end Go.Proofs.Ytjlkndkedknocaa
namespace Go.Proofs.Ytjlkndkedknocaa
open Go Go.Ai
attribute [local instance] Classical.propDecidable
def PermB (f : List Int) : Prop := PermL f.length f ∧ 1 ≤ f.length ∧ f.length ≤ 200
def PermsA (A : List (List Int)) : Prop := ∀ i, i < A.length → (nthR A i).length = (nthR A 0).length ∧ PermB (nthR A i)
def invA (A : List (List Int)) : List (List Int) := A.map invL
def HomA (G : Dg) (A : List (List Int)) : Prop := ∀ i, i < G.n → TrivL A (invA A) (relOf G i) (nthR A 0).length
noncomputable def checkD (G : Dg) (A : List (List Int)) : Int := if (A.length : Int) = arC G + G.L then (if PermsA A then (if HomA G A then 0 else 5) else 1) else 1
theorem invA_length (A : List (List Int)) : (invA A).length = A.length := by simp [invA]
theorem invA_at {A : List (List Int)} {i : Nat} (h : i < A.length) : nthR (invA A) i = invL (nthR A i) := by simp [invA, nthR, h]
theorem PermsA.rows {A : List (List Int)} (h : PermsA A) : RowsOk (nthR A 0).length A := fun k hk => by
 obtain ⟨h1, h2, _⟩ := h k hk
 exact ⟨h1, by rw [← h1]; exact h2.rng⟩
theorem PermsA.inv {A : List (List Int)} (h : PermsA A) : RowsOk (nthR A 0).length (invA A) := fun k hk => by
 rw [invA_length] at hk
 obtain ⟨h1, h2, _⟩ := h k hk
 have := h2.inv
 rw [invA_at hk, ← h1]
 exact ⟨this.len, this.rng⟩
theorem relOf_let {G : Dg} (hG : GoodG G) {g i : Nat} (hi : i < G.n) (hg : arC G ≤ g) : LetOk g (relOf G i) := by
 intro j hj
 have h0 := gen_le hG hi (show 0 < 4 by omega)
 have h1 := gen_le hG hi (show 1 < 4 by omega)
 have h2 := gen_le hG hi (show 2 < 4 by omega)
 have hj4 : j < 4 := by simpa [relOf] using hj
 unfold relOf
 match j, hj4 with
 | 0, _ => rcases hG.sign i hi with e | e <;> simp [nth, e] <;> omega
 | 1, _ => simp [nth]; omega
 | 2, _ => rcases hG.sign i hi with e | e <;> simp [nth, e] <;> omega
 | 3, _ => simp [nth]; omega
variable {E : Env} (hE : OE E)
include hE
theorem isPerm_ {h : List O} {v : Value} {f : List Int} (hv : Ints h v f) (hroom : f.length * 8 ≤ roomMax) :
  DR E 144 [v] ⟨h, h.length⟩ (.ret (.bool (decide (PermB f)))) ⟨h, h.length⟩ := by
 refine hE.fn (body := rb144) rfl ?_
 unfold rb144
 simp only [roomMax] at hroom
 obtain ⟨a, b, o, c, rfl, ha, hrd⟩ := hv.at
 have e1 : (f.length : Int) ≤ 140737488355328 := by omega
 have e2 : (f.length : Int) < 4611686018427387904 := by omega
 have hbs : ∀ l, (Out.ret (.bool l)).scalar = true := fun _ => rfl
 simp [e1, e2]
 refine DW_loop (fun kk fr st => ∃ (i : Nat) (bs : List Bool), i + kk = f.length ∧ st = ⟨h ++ [.cells (boolsC bs) 4 (some 0)], h.length⟩ ∧ bs.length = f.length ∧ (∀ y, y < f.length → (bnth bs y = true ↔ ∃ j, j < i ∧ nth f j = y)) ∧ (∀ j, j < i → 0 ≤ nth f j ∧ nth f j < f.length) ∧ (∀ j j', j < j' → j' < i → nth f j ≠ nth f j') ∧
  get fr 0 = .slice a f.length c ∧ get fr 3 = .slice (some ⟨h.length, 0, none⟩) f.length f.length ∧ get fr 9 = .slice a f.length c ∧ get fr 10 = .int .i64 f.length ∧ get fr 11 = .int .i64 i) ?_ (k := f.length) ?_
 ·rintro kk fr st ⟨i, bs, hik, rfl, hbl, hbs1, hrg, hij, g0, g3, g9, g10, g11⟩
  by_cases hi : i < f.length
  ·have hw : IntKind.i64.wrap ((i : Int) + 1) = (i : Int) + 1 := by rw [w64_id] <;> omega
   obtain rfl := ha (by omega)
   have hbl' : b < h.length := by
    have := hrd i hi
    unfold rdO at this
    split at this
    ·rename_i hb; exact (List.getElem?_eq_some_iff.1 hb).1
    ·cases this
   have hrd' : ∀ l, rdO (h ++ l)[b]? (o + i) = some (.int .i64 (nth f i)) := fun l => by rw [List.getElem?_append_left hbl']; exact hrd i hi
   by_cases c1 : nth f i < 0
   ·have hno : ¬ PermB f := fun hp => by have := hp.1.rng i (by omega); omega
    simp [g0, g3, g9, g10, g11, hi, rd_def, hrd', c1, endK_ret, hno, back_scalar, Out.scalar, scalar, flat1, flat]
   ·by_cases c2 : (f.length : Int) ≤ nth f i
    ·have hno : ¬ PermB f := fun hp => by have := hp.1.rng i (by omega); omega
     simp [g0, g3, g9, g10, g11, hi, rd_def, hrd', c1, c2, endK_ret, hno, back_scalar, Out.scalar, scalar, flat1, flat]
    ·obtain ⟨y, hy⟩ : ∃ y : Nat, nth f i = y := ⟨(nth f i).toNat, by omega⟩
     have hyl : y < f.length := by omega
     have hyl2 : y < bs.length := by omega
     have hyl3 : y + 1 ≤ f.length := by omega
     have c1' : ¬ ((y : Int) < 0) := by omega
     have c2' : ¬ (f.length ≤ y) := by omega
     by_cases c3 : bnth bs y = true
     ·obtain ⟨j, hj, hjy⟩ := (hbs1 y hyl).1 c3
      have hno : ¬ PermB f := fun hp => hp.1.inj j i hj (by omega) (by rw [hjy, hy])
      simp [g0, g3, g9, g10, g11, hi, rd_def, hrd', hy, c1', c2', hyl, rd_at0, app_at0, boolsC_get hyl2, c3, endK_ret, hno, back_scalar, Out.scalar, scalar, flat1, flat]
     ·have c3' : bnth bs y = false := by simpa using c3
      simp [g0, g3, g9, g10, g11, hi, rd_def, hrd', hy, c1', c2', hyl, rd_at0, app_at0, boolsC_get hyl2, c3', wrN_at0, hbl, hyl3, boolsC_set, set_at0, hw]
      refine ⟨kk - 1, by omega, i + 1, by omega, bs.set y true, rfl, by simp [hbl], fun z hz => ?_, fun j hj => ?_, fun j j' h1 h2 => ?_, by omega⟩
      ·rw [bnth_set hyl2]
       by_cases e : z = y
       ·rw [if_pos e]
        exact ⟨fun _ => ⟨i, by omega, by rw [hy, e]⟩, fun _ => rfl⟩
       ·rw [if_neg e, hbs1 z hz]
        constructor
        ·rintro ⟨j, h1, h2⟩; exact ⟨j, by omega, h2⟩
        ·rintro ⟨j, h1, h2⟩
         by_cases ej : j = i
         ·rw [ej, hy] at h2; omega
         ·exact ⟨j, by omega, h2⟩
      ·by_cases ej : j = i
       ·rw [ej]; omega
       ·exact hrg j (by omega)
      ·by_cases ej : j' = i
       ·rw [ej, hy]
        intro e
        exact c3 ((hbs1 y hyl).2 ⟨j, by omega, e⟩)
       ·exact hij j j' h1 (by omega)
  ·have hin : i = f.length := by omega
   subst hin
   have hP : PermL f.length f := ⟨rfl, fun j hj => hrg j hj, hij⟩
   by_cases c1 : 1 ≤ f.length
   ·have c1' : (1 : Int) ≤ f.length := by omega
    by_cases c2 : f.length ≤ 200
    ·have c2' : (f.length : Int) ≤ 200 := by omega
     have hyes : PermB f := ⟨hP, c1, c2⟩
     simp [g0, g3, g9, g10, g11, c1', c2', endK_ret, hyes, back_scalar, Out.scalar, scalar, flat1, flat]
    ·have c2' : ¬ (f.length : Int) ≤ 200 := by omega
     have hno : ¬ PermB f := fun hp => c2 hp.2.2
     simp [g0, g3, g9, g10, g11, c1', c2', endK_ret, hno, back_scalar, Out.scalar, scalar, flat1, flat]
   ·have c1' : ¬ (1 : Int) ≤ f.length := by omega
    have hno : ¬ PermB f := fun hp => c1 hp.2.1
    simp [g0, g3, g9, g10, g11, c1', endK_ret, hno, back_scalar, Out.scalar, scalar, flat1, flat]
 ·refine ⟨0, List.replicate f.length false, by omega, by simp [rep, boolsC], by simp, fun y hy => ?_, fun j h => by omega, fun j j' h1 h2 => by omega, by simp⟩
  rw [bnth_rep hy]
  simp
end Go.Proofs.Ytjlkndkedknocaa
namespace Go.Ai
attribute [local instance] Classical.propDecidable
def Sy : Type := { p : (Nat → Nat) × (Nat → Nat) // (∀ i, p.1 (p.2 i) = i) ∧ ∀ i, p.2 (p.1 i) = i }
namespace Sy
def f (p : Sy) : Nat → Nat := p.1.1
def g (p : Sy) : Nat → Nat := p.1.2
theorem fg (p : Sy) (i : Nat) : p.f (p.g i) = i := p.2.1 i
theorem gf (p : Sy) (i : Nat) : p.g (p.f i) = i := p.2.2 i
theorem ext {p q : Sy} (h : ∀ i, p.f i = q.f i) : p = q := by
 have h2 : ∀ i, p.g i = q.g i := fun i => by
  have := h (p.g i)
  rw [p.fg] at this
  rw [this, q.gf, ← this]
 exact Subtype.ext (Prod.ext (funext h) (funext h2))
end Sy
instance : Gp Sy where
 mul p q := ⟨(fun i => q.f (p.f i), fun i => p.g (q.g i)), fun i => by simp only [p.fg, q.fg], fun i => by simp only [p.gf, q.gf]⟩
 e := ⟨(fun i => i, fun i => i), fun _ => rfl, fun _ => rfl⟩
 inv p := ⟨(p.g, p.f), p.gf, p.fg⟩
 assoc _ _ _ := rfl
 e_mul _ := rfl
 mul_e _ := rfl
 inv_mul p := Sy.ext fun i => p.fg i
 mul_inv p := Sy.ext fun i => p.gf i
theorem Sy.mul_f (p q : Sy) (i : Nat) : (p * q).f i = q.f (p.f i) := rfl
theorem Sy.inv_f (p : Sy) (i : Nat) : (Gp.inv p).f i = p.g i := rfl
theorem Sy.e_f (i : Nat) : (Gp.e : Sy).f i = i := rfl
theorem row_fg {N : Nat} {r : List Int} (h : PermL N r) (i : Nat) : (fun i => if i < N then (nth r i).toNat else i) ((fun i => if i < N then (nth (invL r) i).toNat else i) i) = i := by
 by_cases hi : i < N
 ·simp only [if_pos hi]
  obtain ⟨j, hj, he⟩ := h.onto hi
  have hinv := invL_at h hj
  rw [he, Int.toNat_natCast] at hinv
  rw [hinv, Int.toNat_natCast, if_pos hj, he, Int.toNat_natCast]
 ·simp only [if_neg hi]
theorem row_gf {N : Nat} {r : List Int} (h : PermL N r) (i : Nat) : (fun i => if i < N then (nth (invL r) i).toNat else i) ((fun i => if i < N then (nth r i).toNat else i) i) = i := by
 by_cases hi : i < N
 ·simp only [if_pos hi]
  have hr := h.rng i (by rw [h.len]; exact hi)
  rw [if_pos (by omega), invL_at h hi, Int.toNat_natCast]
 ·simp only [if_neg hi]
noncomputable def toSy (N : Nat) (r : List Int) : Sy := if h : PermL N r then ⟨(fun i => if i < N then (nth r i).toNat else i, fun i => if i < N then (nth (invL r) i).toNat else i), row_fg h, row_gf h⟩ else Gp.e
theorem toSy_is {N : Nat} {r : List Int} (h : PermL N r) : toSy N r = ⟨(fun i => if i < N then (nth r i).toNat else i, fun i => if i < N then (nth (invL r) i).toNat else i), row_fg h, row_gf h⟩ := dif_pos h
theorem toSy_e {N : Nat} {r : List Int} (h : ¬ PermL N r) : toSy N r = Gp.e := dif_neg h
theorem toSy_f {N : Nat} {r : List Int} (h : PermL N r) (i : Nat) : (toSy N r).f i = if i < N then (nth r i).toNat else i := by rw [toSy_is h]; rfl
theorem toSy_g {N : Nat} {r : List Int} (h : PermL N r) (i : Nat) : (toSy N r).g i = if i < N then (nth (invL r) i).toNat else i := by rw [toSy_is h]; rfl
theorem toSy_out {N : Nat} {r : List Int} {i : Nat} (hi : N ≤ i) : (toSy N r).f i = i ∧ (toSy N r).g i = i := by
 by_cases h : PermL N r
 ·rw [toSy_f h, toSy_g h, if_neg (by omega), if_neg (by omega)]; exact ⟨rfl, rfl⟩
 ·rw [toSy_e h]; exact ⟨rfl, rfl⟩
def Fix (N : Nat) (p : Sy) : Prop := ∀ i, N ≤ i → p.f i = i
theorem Fix.toSy (N : Nat) (r : List Int) : Fix N (toSy N r) := fun i hi => (toSy_out hi).1
theorem Fix.inv {N : Nat} {p : Sy} (h : Fix N p) : Fix N (Gp.inv p) := fun i hi => by
 have := p.gf i
 rw [h i hi] at this
 exact this
theorem Fix.mul {N : Nat} {p q : Sy} (h : Fix N p) (k : Fix N q) : Fix N (p * q) := fun i hi => by rw [Sy.mul_f, h i hi, k i hi]
theorem Fix.e (N : Nat) : Fix N Gp.e := fun i _ => rfl
theorem Fix.lt {N : Nat} {p : Sy} (h : Fix N p) {i : Nat} (hi : i < N) : p.f i < N := by
 rcases Nat.lt_or_ge (p.f i) N with h1 | h1
 ·exact h1
 ·have h2 := h _ h1
  have h3 := p.gf (p.f i)
  rw [h2, p.gf] at h3
  omega
noncomputable def letS (N : Nat) (A : List (List Int)) (y : Int) : Sy := if 0 < y then toSy N (nthR A (y - 1).toNat) else Gp.inv (toSy N (nthR A (-y - 1).toNat))
noncomputable def wordS (N : Nat) (A : List (List Int)) (w : List Int) : Sy := w.foldl (fun m y => m * letS N A y) Gp.e
theorem letS_fix (N : Nat) (A : List (List Int)) (y : Int) : Fix N (letS N A y) := by
 unfold letS
 split
 ·exact .toSy _ _
 ·exact (Fix.toSy _ _).inv
theorem fold_mul (N : Nat) (A : List (List Int)) : ∀ (w : List Int) (m : Sy), w.foldl (fun m y => m * letS N A y) m = m * wordS N A w := by
 intro w
 induction w with
 | nil => intro m; exact (Gp.mul_e m).symm
 | cons y w ih =>
  intro m
  unfold wordS
  simp only [List.foldl_cons]
  rw [ih, ih (Gp.e * letS N A y), Gp.e_mul, Gp.assoc]
theorem wordS_cons (N : Nat) (A : List (List Int)) (y : Int) (w : List Int) : wordS N A (y :: w) = letS N A y * wordS N A w := by
 unfold wordS
 simp only [List.foldl_cons]
 rw [fold_mul, Gp.e_mul]
 rfl
theorem wordS_app (N : Nat) (A : List (List Int)) (v w : List Int) : wordS N A (v ++ w) = wordS N A v * wordS N A w := by
 induction v with
 | nil => exact (Gp.e_mul _).symm
 | cons y v ih => rw [List.cons_append, wordS_cons, wordS_cons, ih, Gp.assoc]
theorem wordS_fix (N : Nat) (A : List (List Int)) (w : List Int) : Fix N (wordS N A w) := by
 induction w with
 | nil => exact .e _
 | cons y w ih => rw [wordS_cons]; exact (letS_fix _ _ _).mul ih
end Go.Ai
namespace Go.Proofs.Ytjlkndkedknocaa
open Go Go.Ai
attribute [local instance] Classical.propDecidable
theorem nthR_invA {A : List (List Int)} (k : Nat) : nthR (invA A) k = invL (nthR A k) := by
 by_cases h : k < A.length
 ·exact invA_at h
 ·simp [invA, nthR, h, invL, invN]
theorem actL_S {N : Nat} {A : List (List Int)} (hP : ∀ k, k < A.length → PermL N (nthR A k)) {y : Int} (hy : y ≠ 0 ∧ y.natAbs ≤ A.length) {p : Nat} (hp : p < N) : actL A (invA A) p y = ((letS N A y).f p : Nat) := by
 unfold actL letS
 by_cases h : 0 < y
 ·rw [if_pos h, if_pos h]
  have hk := hP (y - 1).toNat (by omega)
  have hr := hk.rng p (by rw [hk.len]; exact hp)
  rw [toSy_f hk, if_pos hp, Int.toNat_natCast]
  omega
 ·rw [if_neg h, if_neg h]
  have hk := hP (-y - 1).toNat (by omega)
  have hr := hk.inv.rng p (by rw [hk.inv.len]; exact hp)
  rw [Sy.inv_f, toSy_g hk, if_pos hp, Int.toNat_natCast, nthR_invA]
  omega
theorem actW_S {N : Nat} {A : List (List Int)} (hP : ∀ k, k < A.length → PermL N (nthR A k)) : ∀ {w : List Int}, (∀ y ∈ w, y ≠ 0 ∧ y.natAbs ≤ A.length) → ∀ {p : Nat}, p < N → actW A (invA A) w p = ((wordS N A w).f p : Nat) := by
 intro w
 induction w with
 | nil => intro _ p _; rfl
 | cons y w ih =>
  intro hw p hp
  have h1 := actL_S hP (hw y (by simp)) hp
  have h2 := (letS_fix N A y).lt hp
  have h3 := ih (fun z hz => hw z (by simp [hz])) h2
  unfold actW at h3 ⊢
  rw [List.foldl_cons, h1, h3, wordS_cons, Sy.mul_f]
theorem triv_S {N : Nat} {A : List (List Int)} (hP : ∀ k, k < A.length → PermL N (nthR A k)) {w : List Int} (hw : ∀ y ∈ w, y ≠ 0 ∧ y.natAbs ≤ A.length) : TrivL A (invA A) w N ↔ wordS N A w = Gp.e := by
 constructor
 ·intro h
  refine Sy.ext fun i => ?_
  by_cases hi : i < N
  ·have h1 := h i hi
   rw [actW_S hP hw hi] at h1
   rw [Sy.e_f]; omega
  ·rw [wordS_fix N A w i (by omega), Sy.e_f]
 ·intro h i hi
  rw [actW_S hP hw hi, h, Sy.e_f]
end Go.Proofs.Ytjlkndkedknocaa
namespace Go.Ai
attribute [local instance] Classical.propDecidable
noncomputable def fixN (N : Nat) (p : Sy) : Nat := cntP (fun i => p.f i = i) N
end Go.Ai
namespace Go.Proofs.Ytjlkndkedknocaa
open Go Go.Ai
attribute [local instance] Classical.propDecidable
noncomputable def labS (G : Dg) (N : Nat) (A : List (List Int)) (a : Nat) : Sy := toSy N (nthR A (arN G a))
theorem letS_pos (G : Dg) (N : Nat) (A : List (List Int)) (a : Nat) : letS N A (gen G a) = labS G N A a := by
 unfold letS labS gen
 rw [if_pos (by omega), show ((arN G a : Int) + 1 - 1).toNat = arN G a by omega]
theorem letS_neg (G : Dg) (N : Nat) (A : List (List Int)) (a : Nat) : letS N A (-(gen G a)) = Gp.inv (labS G N A a) := by
 unfold letS labS gen
 rw [if_neg (by omega), show (-(-((arN G a : Int) + 1)) - 1).toNat = arN G a by omega]
theorem over_arN {G : Dg} {c : Nat} (hc : c < G.n) : arN G (G.X c 3) = arN G (G.X c 1) := by
 unfold arN arR
 rw [archR_eq G.X G.n c hc]
theorem over_lab {G : Dg} {N : Nat} {A : List (List Int)} {c : Nat} (hc : c < G.n) : labS G N A (G.X c 3) = labS G N A (G.X c 1) := by unfold labS; rw [over_arN hc]
section
variable {G : Dg} (hG : GoodG G) {N : Nat} {A : List (List Int)}
include hG
theorem rel_word {c : Nat} (hc : c < G.n) : (G.s c = 1 ∧ wordS N A (relOf G c) = Gp.inv (labS G N A (G.X c 1)) * (labS G N A (G.X c 0) * (labS G N A (G.X c 1) * Gp.inv (labS G N A (G.X c 2))))) ∨
  (G.s c = -1 ∧ wordS N A (relOf G c) = labS G N A (G.X c 1) * (labS G N A (G.X c 0) * (Gp.inv (labS G N A (G.X c 1)) * Gp.inv (labS G N A (G.X c 2))))) := by
 unfold relOf
 rcases hG.sign c hc with e | e <;> rw [e]
 ·refine .inl ⟨rfl, ?_⟩
  rw [show -(gen G (G.X c 1)) * 1 = -(gen G (G.X c 1)) by omega, show gen G (G.X c 1) * 1 = gen G (G.X c 1) by omega, wordS_cons, wordS_cons, wordS_cons, wordS_cons, letS_neg, letS_pos, letS_pos, letS_neg]
  rw [show wordS N A [] = Gp.e from rfl, Gp.mul_e]
 ·refine .inr ⟨rfl, ?_⟩
  rw [show -(gen G (G.X c 1)) * -1 = gen G (G.X c 1) by omega, show gen G (G.X c 1) * -1 = -(gen G (G.X c 1)) by omega, wordS_cons, wordS_cons, wordS_cons, wordS_cons, letS_neg, letS_pos, letS_pos, letS_neg]
  rw [show wordS N A [] = Gp.e from rfl, Gp.mul_e]
theorem rel_conj {c : Nat} (hc : c < G.n) : wordS N A (relOf G c) = Gp.e ↔ (G.s c = 1 ∧ labS G N A (G.X c 2) = Gp.inv (labS G N A (G.X c 1)) * labS G N A (G.X c 0) * labS G N A (G.X c 1)) ∨ (G.s c = -1 ∧ labS G N A (G.X c 2) = labS G N A (G.X c 1) * labS G N A (G.X c 0) * Gp.inv (labS G N A (G.X c 1))) := by
 have key : ∀ p q : Sy, p * Gp.inv q = Gp.e ↔ q = p := fun p q => by
  constructor
  ·intro h
   have := Gp.eq_mul_inv.1 h.symm
   rw [Gp.e_mul] at this; exact this
  ·rintro rfl; exact Gp.mul_inv _
 rcases rel_word hG (N := N) (A := A) hc with ⟨e, h⟩ | ⟨e, h⟩
 ·rw [h, ← Gp.assoc, ← Gp.assoc, key]
  constructor
  ·intro h'; exact .inl ⟨e, h'⟩
  ·rintro (⟨_, h'⟩ | ⟨e', _⟩)
   ·exact h'
   ·omega
 ·rw [h, ← Gp.assoc, ← Gp.assoc, key]
  constructor
  ·intro h'; exact .inr ⟨e, h'⟩
  ·rintro (⟨e', _⟩ | ⟨_, h'⟩)
   ·omega
   ·exact h'
theorem relP_conj {c : Nat} (hc : c < G.n) : RelP G (labS G N A) c ↔ wordS N A (relOf G c) = Gp.e := by
 rw [rel_conj hG hc]
 unfold RelP labP
 rw [over_lab hc]
 obtain ⟨u, hu⟩ : ∃ u, u = labS G N A (G.X c 1) := ⟨_, rfl⟩
 obtain ⟨a, ha⟩ : ∃ u, u = labS G N A (G.X c 0) := ⟨_, rfl⟩
 obtain ⟨b, hb⟩ : ∃ u, u = labS G N A (G.X c 2) := ⟨_, rfl⟩
 rw [← hu, ← ha, ← hb]
 rcases hG.sign c hc with e | e <;> rw [e]
 ·rw [if_neg (by decide), if_pos (by decide), if_pos (by decide), if_neg (by decide)]
  constructor
  ·intro h
   refine .inl ⟨rfl, ?_⟩
   have h1 := Gp.eq_mul_inv.1 h.symm
   rw [Gp.e_mul] at h1
   have h2 : a * u = u * b := Gp.cancelL (a := Gp.inv a) (by rw [← Gp.assoc, Gp.inv_mul, Gp.e_mul, ← Gp.assoc]; exact h1)
   refine Gp.cancelL (a := u) ?_
   rw [← h2, ← Gp.assoc, ← Gp.assoc, Gp.mul_inv, Gp.e_mul]
  ·rintro (⟨_, h⟩ | ⟨h, _⟩)
   ·rw [h]
    simp only [Gp.assoc]
    rw [← Gp.assoc u (Gp.inv u), Gp.mul_inv, Gp.e_mul, Gp.mul_e, Gp.inv_mul]
   ·omega
 ·rw [if_neg (by decide), if_neg (by decide), if_pos (by decide), if_pos (by decide)]
  constructor
  ·intro h
   refine .inr ⟨rfl, ?_⟩
   refine Gp.eq_mul_inv.2 ?_
   refine Gp.cancelL (a := Gp.inv u) (Gp.cancelL (a := Gp.inv a) ?_)
   rw [← Gp.assoc, ← Gp.assoc, ← Gp.assoc] at *
   rw [h]
   simp only [Gp.assoc]
   rw [← Gp.assoc (Gp.inv u) u, Gp.inv_mul, Gp.e_mul, Gp.inv_mul]
  ·rintro (⟨h, _⟩ | ⟨_, h⟩)
   ·omega
   ·rw [h]
    simp only [Gp.assoc]
    rw [Gp.inv_mul, Gp.mul_e, ← Gp.assoc (Gp.inv u) u, Gp.inv_mul, Gp.e_mul, Gp.inv_mul]
theorem rel_mem {c : Nat} (hc : c < G.n) (hA : arC G ≤ A.length) : ∀ y ∈ relOf G c, y ≠ 0 ∧ y.natAbs ≤ A.length := fun y hy => by
 obtain ⟨j, hj, he⟩ := List.getElem_of_mem hy
 have := relOf_let hG hc (Nat.le_refl _) j hj
 rw [nth_eq hj, he] at this
 exact ⟨this.1, by omega⟩
theorem redundant (hP : PlanG G) (hA : arC G ≤ A.length) (hp : ∀ k, k < A.length → PermL N (nthR A k)) {left : Nat} (hl : left < G.n) (h : ∀ i, i < G.n → i ≠ left → TrivL A (invA A) (relOf G i) N) : TrivL A (invA A) (relOf G left) N := by
 obtain ⟨g, hg⟩ := planar hG hP (x := labS G N A) (c0 := left) fun c hc hne => (relP_conj hG hc).2 ((triv_S hp (rel_mem hG hc hA)).1 (h c hc hne))
 exact (triv_S hp (rel_mem hG hl hA)).2 ((relP_conj hG hl).1 (RegL.rel hG hg hl))
theorem next_cases {a : Nat} (ha : a < 2 * G.n) : (G.T a 3 = 0 ∧ nx G a = G.X (G.T a 2) 2 ∧ a = G.X (G.T a 2) 0) ∨ (G.T a 3 ≠ 0 ∧ arN G (nx G a) = arN G a) := by
 obtain ⟨t0, t1, t2, t3, x1, x2, _⟩ := hG.T a ha
 have hd := (hG.dir a ha).2
 by_cases h0 : G.T a 3 = 0
 ·refine .inl ⟨h0, by unfold nx; rw [h0], by rw [h0] at x2; exact x2.symm⟩
 ·refine .inr ⟨h0, ?_⟩
  have hne2 : G.T a 3 ≠ 2 := fun e => by rw [e] at hd; simp [outB] at hd
  have ho := over_arN t2
  unfold nx
  rcases (show G.T a 3 = 1 ∨ G.T a 3 = 3 by omega) with e | e
  ·rw [e] at x2 ⊢
   rw [ho, x2]
  ·rw [e] at x2 ⊢
   rw [show (3 + 2) % 4 = 1 from rfl, ← ho, x2]
end
theorem strandC {G : Dg} (hG : GoodG G) {xs : List Int} {k : Nat} (hO : OrbI (2 * G.n) (nx G) (2 * G.n) k xs) {c q : Nat} (hc : c < G.n) (hq : q < 4) : nth xs (G.X c ((q + 2) % 4)) = nth xs (G.X c q) := by
 have hN := nx_perm hG
 have hrel : ∀ a, a < 2 * G.n → nth xs a = nth xs (nx G a) := fun a ha => (hO.rel a _ ha (nx_begin hG ha).1 (hO.done a ha)).2 ⟨1, rfl⟩
 have hv := hG.inV (x := (c, q)) hc hq
 have hv2 := hG.inV (x := (c, (q + 2) % 4)) hc (Nat.mod_lt _ (by omega))
 have fwd : ∀ a p, a < 2 * G.n → (c, p) = eP G a → nth xs (G.X c ((p + 2) % 4)) = nth xs a := fun a p ha e => by
  have h1 : c = G.T a 2 := congrArg Prod.fst e
  have h2 : p = G.T a 3 := congrArg Prod.snd e
  rw [hrel a ha]
  unfold nx
  rw [← h1, ← h2]
 rcases at_be hG hv with e | e
 ·rcases at_be hG hv2 with e2 | e2
  ·have d1 := (hG.dir _ hv.2.2).1
   have d2 := (hG.dir _ hv2.2.2).1
   have f1 : c = G.T (G.X c q) 0 := congrArg Prod.fst e
   have f2 : q = G.T (G.X c q) 1 := congrArg Prod.snd e
   have g1 : c = G.T (G.X c ((q + 2) % 4)) 0 := congrArg Prod.fst e2
   have g2 : (q + 2) % 4 = G.T (G.X c ((q + 2) % 4)) 1 := congrArg Prod.snd e2
   simp only at d1 d2
   rw [← f1, ← f2] at d1
   rw [← g1, ← g2] at d2
   have := outB_flip (hG.sign c hc) hq
   rw [d1, d2] at this
   cases this
  ·have := fwd _ _ hv2.2.2 e2
   simp only at this
   rw [← this, show ((q + 2) % 4 + 2) % 4 = q by omega]
 ·exact fwd _ _ hv.2.2 e
theorem root_cnt {r : Nat → Nat} {i j : Nat} (hi : r i = i) (hj : r j = j) (h : cntR r i = cntR r j) : i = j := by
 have key : ∀ i j, i < j → r i = i → cntR r i < cntR r j := fun i j hij hr => by
  have h1 := cntP_mono (fun b => r b = b) (show i + 1 ≤ j by omega)
  simp only [cntP] at h1
  rw [if_pos hr] at h1
  unfold cntR
  omega
 rcases Nat.lt_trichotomy i j with h1 | h1 | h1
 ·have := key i j h1 hi; omega
 ·exact h1
 ·have := key j i h1 hj; omega
theorem arch_comp {G : Dg} (hG : GoodG G) {xs : List Int} {k : Nat} (hO : OrbI (2 * G.n) (nx G) (2 * G.n) k xs) {a b : Nat} (h : arN G a = arN G b) : nth xs a = nth xs b := by
 have hr := arR_rep G
 have hab : arR G a = arR G b := root_cnt (hr.idem a) (hr.idem b) h
 have hc : ∀ i, nth xs (arR G i) = nth xs i := fun i => archR_const (f := fun a => nth xs a) G.n (fun c hc => by
  have := strandC hG hO hc (show 1 < 4 by omega)
  exact this.symm) i
 rw [← hc a, ← hc b, hab]
end Go.Proofs.Ytjlkndkedknocaa
