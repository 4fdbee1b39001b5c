/- Texts that were built one by one: Od17, Odq, Or1, Oh, Od18, Ra1, Ra2, Ra3, Ra4, Ra5, Ra6, Ra7, Ra8, Ra9, Ra10, Ra11, RaC, Od19, Od20, Od21, Od22, Od23, Od24, Od25, Od26, On2, Od27. -/
import Derived.Test.YtjlkndkedknocaaMe
import Derived.Test.YtjlkndkedknocaaAiFm
import Derived.Test.YtjlkndkedknocaaMd
import Derived.Test.YtjlkndkedknocaaChecked
import Derived.KernelRfl
import Derived.Test.YtjlkndkedknocaaRows
import Derived.WalkKit
import Derived.ProofKit
import Derived.OpenShut
import Derived.SizedLaws
set_option linter.unusedSimpArgs false
set_option linter.unusedVariables false
namespace Go.Proofs.Ytjlkndkedknocaa
open Go Go.Ai
attribute [local instance] Classical.propDecidable
noncomputable def kindD (n : Nat) (x : Nat → Nat → Int) (s : Nat → Int) (L : Int) : Int := if Snd n x s L then (if PlanG (dgOf n x s L) then 0 else 221) else 220
theorem kind_ok {n : Nat} {x : Nat → Nat → Int} {s : Nat → Int} {L : Int} (h1 : Snd n x s L) (h2 : PlanG (dgOf n x s L)) : kindD n x s L = 0 := by unfold kindD; rw [if_pos h1, if_pos h2]
theorem kind_zero {n : Nat} {x : Nat → Nat → Int} {s : Nat → Int} {L : Int} (h : kindD n x s L = 0) : Snd n x s L ∧ PlanG (dgOf n x s L) := by
 unfold kindD at h
 by_cases h1 : Snd n x s L
 ·rw [if_pos h1] at h
  by_cases h2 : PlanG (dgOf n x s L)
  ·exact ⟨h1, h2⟩
  ·rw [if_neg h2] at h; cases h
 ·rw [if_neg h1] at h; cases h
theorem sound_x {n : Nat} {x : Nat → Nat → Int} {s : Nat → Int} {L : Int} (hS : Snd n x s L) {i q : Nat} (hi : i < n) (hq : q < 4) : x i q = (dgOf n x s L).X i q := by
 have h4 : 0 ≤ x i q := by
  have := (hS.range (4 * i + q) (by omega)).1
  unfold use at this
  rw [show (4 * i + q) / 4 = i by omega, show (4 * i + q) % 4 = q by omega] at this
  exact this
 have : (dgOf n x s L).X i q = (x i q).toNat := rfl
 omega
variable {E : Env} (hE : OE E)
include hE
theorem enter_k {h0 : List O} {a : Option Addr} {n c : Nat} {x : Nat → Nat → Int} {s : Nat → Int} {L : Int} (hx : CrossP h0 a n x s) :
  DC E 157 [dV a n c L] ⟨h0, h0.length⟩ fun o st' =>
   (kindD n x s L = 0 ∧ ∃ p, o = .ret (.tuple #[.pointer (some ⟨p, 0, none⟩), .int .i64 0]) ∧ DiagP st'.h p (dgOf n x s L) ∧ Sub h0 st'.h ∧ h0.length ≤ st'.fl ∧ h0.length ≤ p) ∨
   (kindD n x s L ≠ 0 ∧ o = .ret (.tuple #[.pointer none, .int .i64 (kindD n x s L)]) ∧ st' = ⟨h0, h0.length⟩) := by
 refine (enter_ hE hx).imp ?_
 rintro o st' (⟨h1, h2, p, h3⟩ | ⟨h1, h2, h3, h4⟩ | ⟨h1, h3, h4⟩)
 ·exact .inl ⟨kind_ok h1 h2, p, h3⟩
 ·have : kindD n x s L = 221 := by unfold kindD; rw [if_pos h1, if_neg h2]
  rw [this]; exact .inr ⟨by decide, h3, h4⟩
 ·have : kindD n x s L = 220 := by unfold kindD; rw [if_neg h1]
  rw [this]; exact .inr ⟨by decide, h3, h4⟩
theorem check_ {h0 : List O} {a : Option Addr} {n c : Nat} {x : Nat → Nat → Int} {s : Nat → Int} {L : Int} (hx : CrossP h0 a n x s) :
  DR E 87 [dV a n c L] ⟨h0, h0.length⟩ (.ret (.int .i64 (kindD n x s L))) ⟨h0, h0.length⟩ := by
 refine hE.fn (body := rb87) rfl ?_
 unfold rb87
 have hx1 : CrossP (h0 ++ [O.cells [.slice a n c, .int .i64 L] 24 (some 0)]) a n x s := hx.ext (Ext.snoc _ _)
 have h1 := enter_k hE (c := c) (L := L) hx1
 simp [dV] at h1
 simp [dV, rdN_at0]
 refine h1.imp ?_
 rintro o ⟨h', f'⟩ (⟨hk, p, rfl, hd, hs, hf, hp⟩ | ⟨hk, rfl, rfl, rfl⟩)
 ·simp only at hf
  simp [joined_fl, hf, hk, back_scalar, Out.scalar, scalar, flat1, flat]
 ·simp [joined_fl, back_scalar, Out.scalar, scalar, flat1, flat]
theorem regions_ {h0 : List O} {a : Option Addr} {n c : Nat} {x : Nat → Nat → Int} {s : Nat → Int} {L : Int} (hx : CrossP h0 a n x s) (hk : kindD n x s L = 0) :
  DC E 158 [dV a n c L] ⟨h0, h0.length⟩ fun o st' => ∃ v, o = .ret (.tuple #[v, .int .i64 0]) ∧ h0.length ≤ st'.fl ∧ Sub h0 st'.h ∧ RegsP st'.h h0.length v (regs (dgOf n x s L)) := by
 refine hE.fnC (body := rb158) rfl ?_
 unfold rb158
 have hx1 : CrossP (h0 ++ [O.cells [.slice a n c, .int .i64 L] 24 (some 0)]) a n x s := hx.ext (Ext.snoc _ _)
 have h1 := enter_k hE (c := c) (L := L) hx1
 simp [dV] at h1
 simp [dV, rdN_at0]
 refine h1.imp ?_
 rintro o ⟨h', f'⟩ (⟨_, p, rfl, hd, hs, hf, hp⟩ | ⟨hk', _⟩)
 ·simp only at hf hd hs
  simp [joined_fl, hf]
  refine (regions111 hE (good_of (kind_zero hk).1) hd).imp ?_
  rintro o ⟨h2, f2⟩ ⟨v, rfl, hf2, hs2, hR⟩
  simp only at hf2 hs2 hR
  have hs02 : Sub h0 h2 := ((Sub.refl h0).app _).trans (hs.trans hs2)
  have hsl := hs.len
  simp at hsl
  obtain ⟨ra, rfl, _⟩ := RegsP.look (good_of (kind_zero hk).1) hR
  simp [joined_fl, hf2]
  unfold pairQ back
  have hR0 : RegsP h2 h0.length (.slice ra (regs (dgOf n x s L)).length (regs (dgOf n x s L)).length) (regs (dgOf n x s L)) := by
   obtain ⟨vs, h1, h2⟩ := hR
   exact ⟨vs, h1.low (by omega), fun i r hr => by obtain ⟨v', a1, a2⟩ := h2 i r hr; exact ⟨v', a1, a2.low (by omega)⟩⟩
  split
  ·rename_i hc
   rcases hR0.choose_spec.1.2 with ⟨h5, h6⟩ | ⟨b, h5, _⟩
   ·have hL : regs (dgOf n x s L) = [] := List.length_eq_zero_iff.1 h6
    refine ⟨_, rfl, Nat.le_refl _, Sub.refl _, ?_⟩
    rw [h5, hL]
    exact ⟨[], OwnA.nil _ _ _ _, fun i r h => by simp at h⟩
   ·simp only [Value.slice.injEq] at h5
    rw [h5.1] at hc
    simp [Out.scalar, scalar, flat1, flat] at hc
  ·exact ⟨_, rfl, Nat.le_refl _, hs02, hR0⟩
 ·exact absurd hk hk'
theorem componentsP_ {h0 : List O} {a : Option Addr} {n c : Nat} {x : Nat → Nat → Int} {s : Nat → Int} {L : Int} (hx : CrossP h0 a n x s) (hk : kindD n x s L = 0) :
  DC E 90 [dV a n c L] ⟨h0, h0.length⟩ fun o st' => ∃ (b k : Nat) (xs : List Int), o = .ret (.tuple #[.slice (some ⟨b, 0, none⟩) (2 * n) (2 * n), .int .i64 (k + L), .int .i64 0]) ∧ h0.length ≤ b ∧ h0.length ≤ st'.fl ∧ Sub h0 st'.h ∧
   AtB st'.h b (.cells (intsC xs) 3 (some 0)) ∧ OrbI (2 * n) (nx (dgOf n x s L)) (2 * n) k xs ∧ k ≤ 2 * n := by
 refine hE.fnC (body := rb90) rfl ?_
 unfold rb90
 have hx1 : CrossP (h0 ++ [O.cells [.slice a n c, .int .i64 L] 24 (some 0)]) a n x s := hx.ext (Ext.snoc _ _)
 have h1 := enter_k hE (c := c) (L := L) hx1
 simp [dV] at h1
 simp [dV, rdN_at0]
 refine h1.imp ?_
 rintro o ⟨h', f'⟩ (⟨_, p, rfl, hd, hs, hf, hp⟩ | ⟨hk', _⟩)
 ·simp only at hf hd hs
  simp [joined_fl, hf]
  have hG := good_of (kind_zero hk).1
  refine (components_ hE hG hd).imp ?_
  rintro o ⟨h2, f2⟩ ⟨xs, k, rfl, hf2, hs2, hat, hO, hk2⟩
  simp only at hf2 hs2 hat
  have hs02 : Sub h0 h2 := ((Sub.refl h0).app _).trans (hs.trans hs2)
  have hsl := hs.len
  simp at hsl
  have hd2 := hd.sub hs2
  obtain ⟨xa, xc, ta, tc, el, own, hp0, _, _⟩ := hd2
  have hL := hG.loops
  have hn := hG.size
  have hGn : (dgOf n x s L).n = n := rfl
  have hGL : (dgOf n x s L).L = L := rfl
  have hw : IntKind.i64.wrap ((k : Int) + L) = k + L := by rw [w64_id] <;> omega
  rw [hGL] at hL hp0
  rw [hGn] at hn hk2 hO hp0
  simp [joined_fl, hf2, rd_def, hp0, hw]
  unfold pairQ back
  rw [if_neg (by simp [Out.scalar, scalar, flat1, flat])]
  exact ⟨h'.length, k, rfl, by omega, Nat.le_refl _, hs02, xs, hat, hO, hk2⟩
 ·exact absurd hk hk'
end Go.Proofs.Ytjlkndkedknocaa
namespace Go.Proofs.Ytjlkndkedknocaa
open Go Go.Ai
attribute [local instance] Classical.propDecidable
theorem rdN_block {h : List O} {b o n : Nat} {l : List Value} (hr : rdN h b o n = some l) : ∃ c el ow, h[b]? = some (.cells c el ow) ∧ o + n ≤ c.length ∧ l = (c.drop o).take n := by
 unfold rdN at hr
 split at hr
 ·rename_i c el ow hb
  split at hr
  ·rename_i hl
   exact ⟨c, el, ow, hb, hl, (Option.some.inj hr).symm⟩
  ·cases hr
 ·cases hr
theorem CrossP.whole {h : List O} {a : Option Addr} {n : Nat} {x : Nat → Nat → Int} {s : Nat → Int} (k : CrossP h a n x s) (hn : 0 < n) : ∃ b o l, a = some ⟨b, o, none⟩ ∧ rdN h b o (n * 5) = some l ∧ l.length = n * 5 ∧ l.all one1 = true ∧ ∀ i, i < n → (l.drop (i * 5)).take 5 = crossC (x i) (s i) := by
 obtain ⟨b, o, h1, h2⟩ := k
 obtain ⟨c, el, ow, hb, hl, _⟩ := rdN_block (h2 (n - 1) (by omega))
 have hle : o + n * 5 ≤ c.length := by omega
 have hparts : ∀ i, i < n → (((c.drop o).take (n * 5)).drop (i * 5)).take 5 = crossC (x i) (s i) := fun i hi => by
  have h3 := h2 i hi
  rw [rdN_def, hb, rdNO_cells, if_pos (by omega)] at h3
  have h4 := Option.some.inj h3
  rw [List.drop_take, List.drop_drop, List.take_take, Nat.min_eq_left (by omega)]
  exact h4
 have hlen : ((c.drop o).take (n * 5)).length = n * 5 := by simp; omega
 obtain ⟨m, hm⟩ : ∃ m, m = (c.drop o).take (n * 5) := ⟨_, rfl⟩
 rw [← hm] at hparts hlen
 refine ⟨b, o, m, h1 hn, by rw [rdN_def, hb, rdNO_cells, if_pos hle, hm], hlen, ?_, hparts⟩
 clear hm
 rw [List.all_eq_true]
 intro v hv
 obtain ⟨j, hj, rfl⟩ := List.getElem_of_mem hv
 have hj2 : j < n * 5 := by omega
 have h3 := hparts (j / 5) (by omega)
 have h4 := congrArg (fun l => l[j % 5]?) h3
 simp only [List.getElem?_take, List.getElem?_drop] at h4
 rw [if_pos (Nat.mod_lt _ (by omega)), show j / 5 * 5 + j % 5 = j by omega, List.getElem?_eq_getElem hj] at h4
 have h5 : j % 5 < 5 := Nat.mod_lt _ (by omega)
 generalize j % 5 = q at h4 h5
 match q, h5 with
 | 0, _ => rw [Option.some.inj h4]; rfl
 | 1, _ => rw [Option.some.inj h4]; rfl
 | 2, _ => rw [Option.some.inj h4]; rfl
 | 3, _ => rw [Option.some.inj h4]; rfl
 | 4, _ => rw [Option.some.inj h4]; rfl
variable {E : Env} (hE : OE E)
include hE
end Go.Proofs.Ytjlkndkedknocaa
namespace Go.Proofs.Ytjlkndkedknocaa
open Go Go.Ai
theorem follows : Try.prog.follows .mixedOrders = true := by kernel_rfl
noncomputable def mine : List Nat := (List.range rfs.length).filter fun f => (rF f).isSome
theorem codes : mine.map (compileF Try.prog) = mine.map rF := by kernel_rfl
def callableB (P : Program) (f : FuncId) : Bool := match P.funcs[f]? with
 | some fn => !(fn.name == "runtime.NumGoroutine") && fn.body.isSome
 | none => false
theorem callableB_ok {P : Program} {f : FuncId} (h : callableB P f = true) : Callable P f := by
 unfold callableB at h
 split at h
 ·rename_i fn hfn
  simp only [Bool.and_eq_true, Bool.not_eq_true', beq_eq_false_iff_ne] at h
  refine ⟨fn, hfn, h.1, fun hb => ?_⟩
  rw [hb] at h
  simp at h
 ·cases h
theorem callables : mine.all (fun f => callableB Try.prog f) = true := by kernel_rfl
theorem rF_mem {f : FuncId} {rf : RFun} (h : rF f = some rf) : f ∈ mine := by
 refine List.mem_filter.2 ⟨List.mem_range.2 ?_, by rw [h]; rfl⟩
 unfold rF at h
 cases hx : rfs[f]? with
 | none => rw [hx] at h; cases h
 | some o => exact (List.getElem?_eq_some_iff.1 hx).1
theorem map_at {α : Type} {l : List Nat} {p q : Nat → α} (h : l.map p = l.map q) {x : Nat} (hx : x ∈ l) : p x = q x := by
 obtain ⟨i, hi, rfl⟩ := List.getElem_of_mem hx
 have := congrArg (fun l => l[i]?) h
 simpa [hi] using this
theorem rF_ok {f : FuncId} {rf : RFun} (h : rF f = some rf) : compileF Try.prog f = some rf ∧ Callable Try.prog f := by
 have hm := rF_mem h
 exact ⟨(map_at codes hm).trans h, callableB_ok (List.all_eq_true.1 callables f hm)⟩
noncomputable def cmpT (nt : Nat) (c : Code) : Option R := match compile Try.prog nt c with
 | some r => if noRange r then some r else none
 | none => none
theorem cmpT_ok {nt : Nat} {c : Code} {r : R} (h : cmpT nt c = some r) : compile Try.prog nt c = some r ∧ noRange r = true := by
 unfold cmpT at h
 split at h
 ·rename_i r' hr
  split at h
  ·rename_i hn
   obtain rfl := Option.some.inj h
   exact ⟨hr, hn⟩
  ·cases h
 ·cases h
noncomputable def E0 : Env := { F := rF, S := fun _ => none, cmp := cmpT }
theorem E0_ok (B : Nat) : EnvOk Fence.wide Try.prog B E0 := ⟨fun f rf h => rF_ok h, fun f s h => (by cases h), fun f s h => (by cases h), fun nt c r h => cmpT_ok h⟩
theorem E0_kept : SumsKept E0 := fun f s h => (by cases h)
end Go.Proofs.Ytjlkndkedknocaa
namespace Go.Proofs.Ytjlkndkedknocaa
open Go Go.Ai Go.ChangeShapes Go.WideShapes Go.ChangeAt Go.RowKit
set_option maxRecDepth 4000
def crossSh : List Sh := [.int .i64, .int .i64, .int .i64, .int .i64, .int .i64]
def diagSh : List Sh := [.slice crossSh, .int .i64]
theorem shapesD : shapes Try.prog 8 24 = some diagSh := by kernel_rfl
theorem own : ownKnob Try.prog.godebug = none := by kernel_rfl
theorem int_of {h : List O} {v : Value} (hf : Fits h (.int .i64) v) : ∃ x, v = .int .i64 x ∧ I64 x := by
 cases hf with
 | int hw =>
  rename_i y
  refine ⟨y, rfl, ?_⟩
  have : -9223372036854775808 ≤ y ∧ y ≤ 9223372036854775807 := by simpa [Lit.wf, IntKind.min, IntKind.max, IntKind.signed, IntKind.bits] using hw
  exact this
def intOf : Option Value → Int
 | some (.int _ x) => x
 | _ => 0
theorem cross_of {h : List O} {v : Value} (hf : Fits h (.slice crossSh) v) : ∃ a n c x s, v = .slice a n c ∧ CrossP h a n x s ∧ n * 40 ≤ roomMax := by
 cases hf with
 | slice b o vs hn ha hr hv =>
  rename_i a n c
  have key : ∀ i, i < n → ∃ x0 x1 x2 x3 s, vs i = [.int .i64 x0, .int .i64 x1, .int .i64 x2, .int .i64 x3, .int .i64 s] := fun i hi => by
   have h1 := hr i hi
   have hl : (vs i).length = 5 := by
    obtain ⟨c, el, ow, _, h2, h3⟩ := rdN_block h1
    rw [h3]
    simp [crossSh] at h2 ⊢
    omega
   match hvi : vs i, hl with
   | [v0, v1, v2, v3, v4], _ =>
    obtain ⟨x0, rfl, _⟩ := int_of (hv i 0 _ v0 hi rfl (by rw [hvi]; rfl))
    obtain ⟨x1, rfl, _⟩ := int_of (hv i 1 _ v1 hi rfl (by rw [hvi]; rfl))
    obtain ⟨x2, rfl, _⟩ := int_of (hv i 2 _ v2 hi rfl (by rw [hvi]; rfl))
    obtain ⟨x3, rfl, _⟩ := int_of (hv i 3 _ v3 hi rfl (by rw [hvi]; rfl))
    obtain ⟨s, rfl, _⟩ := int_of (hv i 4 _ v4 hi rfl (by rw [hvi]; rfl))
    exact ⟨x0, x1, x2, x3, s, rfl⟩
  refine ⟨a, n, c, fun i j => intOf (vs i)[j]?, fun i => intOf (vs i)[4]?, rfl, ⟨b, o, ha, fun i hi => ?_⟩, ?_⟩
  ·obtain ⟨x0, x1, x2, x3, s, e⟩ := key i hi
   have h1 := hr i hi
   rw [show crossSh.length = 5 from rfl] at h1
   rw [h1]
   simp only [crossC, e]
   rfl
  ·have h0 := hn.1
   simp [reachBytes, szB, crossSh, roomMax] at h0 ⊢
   omega
theorem diag_of {h : List O} {cs : List Value} (hf : FitsL h diagSh cs) : ∃ a n c x s L, cs = [.slice a n c, .int .i64 L] ∧ CrossP h a n x s ∧ n * 40 ≤ roomMax := by
 obtain ⟨hl, hv⟩ := hf
 match cs, hl with
 | [v, l], _ =>
  obtain ⟨a, n, c, x, s, rfl, h1, h2⟩ := cross_of (hv 0 _ v rfl rfl)
  obtain ⟨L, rfl, _⟩ := int_of (hv 1 _ l rfl rfl)
  exact ⟨a, n, c, x, s, L, rfl, h1, h2⟩
theorem arg_of {H : Type} {enc : TypeId × Value → H} {W : World} {base : Nat} {t : TypeId} {fs : Array Field} {v : Value} {d : DataW H} {ps : List MemPlace} {shs : List Sh} (ht : Try.prog.underlying t = some (.struct fs)) (hsh : shapes Try.prog 8 t = some shs)
  (hok : Value.okWide Try.prog W .any base t v) (h : DataW.Trod enc Try.prog W 0 (fun _ => true) true t v d ps) (hw : ∀ n ∈ d.weights Try.prog t, n ≤ reachBytes) :
  ∃ cs, v = .agg cs ∧ Canon W shs cs.toList := by
 obtain ⟨fuel, hx⟩ := h
 have hok' : ∃ cs, v = .agg cs ∧ cs.size = Try.prog.cellsOf t ∧ Row.okWide Try.prog W .any base t cs := by
  unfold Value.okWide at hok
  rw [ht] at hok
  exact hok
 obtain ⟨cs, rfl, _⟩ := hok'
 exact ⟨cs, rfl, canon 8 fuel t _ (d, ps) shs hsh hx hw⟩
theorem start (W : World) : SRel W.heap.size (fun _ => none) W ⟨[], 0⟩ :=
 ⟨⟨Nat.le_refl _, fun id l h => by simp at h, fun id l h => by simp at h, fun id l h => by simp at h, fun i j li lj _ h => by simp at h⟩, fun id l h => by simp at h⟩
def zeroD : Value := .agg #[.slice none 0 0, .int .i64 0]
end Go.Proofs.Ytjlkndkedknocaa
namespace Go.Ai
def boolsC (bs : List Bool) : List Value := bs.map .bool
def bnth (bs : List Bool) (i : Nat) : Bool := bs.getD i false
@[simp] theorem boolsC_length (bs : List Bool) : (boolsC bs).length = bs.length := by simp [boolsC]
theorem boolsC_get {bs : List Bool} {i : Nat} (hi : i < bs.length) : (boolsC bs)[i]? = some (.bool (bnth bs i)) := by simp [boolsC, hi, bnth]
theorem boolsC_set (bs : List Bool) (i : Nat) (x : Bool) : (boolsC bs).set i (.bool x) = boolsC (bs.set i x) := by simp [boolsC, List.map_set]
theorem bnth_set {bs : List Bool} {i j : Nat} {x : Bool} (hi : i < bs.length) : bnth (bs.set i x) j = if j = i then x else bnth bs j := by
 unfold bnth
 by_cases h : j = i
 ·subst h; simp [hi]
 ·rw [if_neg h, List.getD_eq_getElem?_getD, List.getElem?_set_ne (Ne.symm h), ← List.getD_eq_getElem?_getD]
theorem bnth_rep {n i : Nat} {x : Bool} (hi : i < n) : bnth (List.replicate n x) i = x := by simp [bnth, hi]
end Go.Ai
namespace Go.Proofs.Ytjlkndkedknocaa
open Go Go.Ai
attribute [local instance] Classical.propDecidable
def MixG (G : Dg) : Prop := G.n ≠ 0 ∧ G.L = 0 ∧ (regs G).length = G.n + 2 ∧ ∀ a, a < 2 * G.n → (∃ c, c < G.n ∧ SameC G (G.X c 0) a) ∧ ∃ c, c < G.n ∧ SameC G (G.X c 1) a
variable {E : Env} (hE : OE E)
include hE
theorem indexB_ {h : List O} {b n c : Nat} {bs : List Bool} {v : Bool} {el : TypeId} {own : Option Nat} (hb : h[b]? = some (.cells (boolsC bs) el own)) (hn : bs.length = n) (hlt : n < 1000000) :
  DC E 220 [.slice (some ⟨b, 0, none⟩) n c, .bool v] ⟨h, h.length⟩ fun o st' => ∃ r : Int, o = .ret (.int .i64 r) ∧ st' = ⟨h, h.length⟩ ∧ (0 ≤ r ↔ ∃ i, i < n ∧ bnth bs i = v) := by
 refine hE.fnC (body := rb220) rfl ?_
 unfold rb220
 simp
 refine DW_loop (fun kk fr st => ∃ (i : Nat), i + kk = n ∧ st = ⟨h, h.length⟩ ∧ (∀ j, j < i → bnth bs j ≠ v) ∧ get fr 0 = .slice (some ⟨b, 0, none⟩) n c ∧ get fr 1 = .bool v ∧ get fr 7 = .int .i64 n ∧ get fr 8 = .int .i64 i) ?_ (k := n) ?_
 ·rintro kk fr st ⟨i, hik, rfl, hm, g0, g1, g7, g8⟩
  by_cases hi : i < n
  ·have hw : IntKind.i64.wrap ((i : Int) + 1) = (i : Int) + 1 := by rw [w64_id] <;> omega
   have hi2 : i < bs.length := by omega
   by_cases hv : bnth bs i = v
   ·simp [g0, g1, g7, g8, hi, rd_def, hb, boolsC_get hi2, hv]
    exact ⟨i, hi, hv⟩
   ·have hv' : v ≠ bnth bs i := fun e => hv e.symm
    have hv2 : (v == bnth bs i) = false := by simpa using hv'
    simp [g0, g1, g7, g8, hi, rd_def, hb, boolsC_get hi2, hv2, hw]
    refine ⟨kk - 1, by omega, i + 1, by omega, fun j hj => ?_, by omega⟩
    by_cases e : j = i
    ·rw [e]; exact hv
    ·exact hm j (by omega)
  ·have hin : i = n := by omega
   subst hin
   simp [g0, g1, g7, g8]
   exact hm
 ·exact ⟨0, by omega, rfl, fun j h => by omega, by simp⟩
theorem containsB_ {h : List O} {b n c : Nat} {bs : List Bool} {v : Bool} {el : TypeId} {own : Option Nat} (hb : h[b]? = some (.cells (boolsC bs) el own)) (hn : bs.length = n) (hlt : n < 1000000) :
  DR E 159 [.slice (some ⟨b, 0, none⟩) n c, .bool v] ⟨h, h.length⟩ (.ret (.bool (decide (∃ i, i < n ∧ bnth bs i = v)))) ⟨h, h.length⟩ := by
 refine hE.fn (body := rb159) rfl ?_
 unfold rb159
 simp
 refine (indexB_ hE hb hn hlt).imp ?_
 rintro o st' ⟨r, rfl, rfl, hr⟩
 simp [hr]
theorem mixed_ {h0 : List O} {a : Option Addr} {n c : Nat} {x : Nat → Nat → Int} {s : Nat → Int} {L : Int} (hx : CrossP h0 a n x s) (hk : kindD n x s L = 0) :
  DR E 88 [dV a n c L] ⟨h0, h0.length⟩ (.ret (.bool (decide (MixG (dgOf n x s L))))) ⟨h0, h0.length⟩ := by
 refine hE.fn (body := rb88) rfl ?_
 unfold rb88
 obtain ⟨G, hGe⟩ : ∃ G, G = dgOf n x s L := ⟨_, rfl⟩
 have hG : GoodG G := by rw [hGe]; exact good_of (kind_zero hk).1
 have hGn : G.n = n := by rw [hGe]; rfl
 have hGL : G.L = L := by rw [hGe]; rfl
 have hXe : ∀ i q, G.X i q = (x i q).toNat := fun i q => by rw [hGe]; rfl
 have hsz := hG.size
 have hLL := hG.loops
 rw [hGn] at hsz
 rw [hGL] at hLL
 have hbad : ∀ h' f, h0.length ≤ f → ¬ MixG G → pairQ (back ⟨h0, h0.length⟩ (.ret (.bool false)) ⟨h', f⟩) fun o2 st2 => o2 = .ret (.bool (decide (MixG G))) ∧ st2 = ⟨h0, h0.length⟩ := fun h' f hf hm => by
  unfold pairQ
  rw [back_scalar (by simp [Out.scalar, scalar, flat1, flat]) hf]
  simp [hm]
 rw [← hGe]
 by_cases hn : n = 0
 ·subst hn
  simp [dV, rd_at0, rdN_at0]
  exact fun h => h.1 hGn
 have hx1 : CrossP (h0 ++ [O.cells [.slice a n c, .int .i64 L] 24 (some 0)]) a n x s := hx.ext (Ext.snoc _ _)
 by_cases hL : 0 < L
 ·simp [dV, rd_at0, rdN_at0, hn, hL]
  exact fun h => by have := h.2.1; omega
 have hL0 : L = 0 := by omega
 have hr := regions_ hE (c := c) hx1 hk
 obtain ⟨hB, hhB⟩ : ∃ H, H = h0 ++ [O.cells [.slice a n c, .int .i64 L] 24 (some 0)] := ⟨_, rfl⟩
 have hBat : hB[h0.length]? = some (O.cells [.slice a n c, .int .i64 L] 24 (some 0)) := by rw [hhB, app_at0]; rfl
 have lB : hB.length = h0.length + 1 := by rw [hhB]; simp
 rw [← hhB] at hr hx1
 rw [← hGe] at hr
 simp [dV] at hr
 simp [dV, rd_at0, rdN_at0, hn, hL]
 rw [← hhB, ← lB]
 have hbr : ∀ h', Sub hB h' → rdN h' h0.length 0 2 = some [.slice a n c, .int .i64 L] := fun h' hs => by rw [rdN_def, hs _ _ hBat]; rfl
 have hbr0 : ∀ h', Sub hB h' → rd h' h0.length 0 = some (.slice a n c) := fun h' hs => by rw [rd_def, hs _ _ hBat]; rfl
 refine hr.imp ?_
 rintro o ⟨h1, f1⟩ ⟨v, rfl, hf1, hs1, hR⟩
 simp only at hf1 hs1 hR
 obtain ⟨ra, rfl, _⟩ := RegsP.look hG hR
 have hw : IntKind.i64.wrap ((n : Int) + 2) = (n : Int) + 2 := by rw [w64_id] <;> omega
 by_cases hrl : (regs G).length = n + 2
 ·have hrl' : ((n : Int) + 2 = (n : Int) + 2) = True := by simp
  have hcm := componentsP_ hE (c := c) (L := L) (hx1.sub hs1) hk
  rw [← hGe] at hcm
  simp [dV] at hcm
  simp [joined_fl, hf1, hbr0 _ hs1, hbr _ hs1, hrl, hw]
  refine hcm.imp ?_
  rintro o ⟨h2, f2⟩ ⟨b, k, rfl, hb, hf2, hs2, xs, hatB, hO, hk2⟩
  simp only at hf2 hs2 hatB
  have hlb := (List.getElem?_eq_some_iff.1 hatB).1
  have hs02 : Sub hB h2 := hs1.trans hs2
  have e1 : (k : Int) + L = k := by omega
  have e2 : (k : Int) * 1 ≤ 140737488355328 := by omega
  have e3 : (k : Int) < 4611686018427387904 := by omega
  have e4 : (k : Int) ≤ 140737488355328 := by omega
  obtain ⟨H, hH⟩ : ∃ H, H = h2 ++ [O.cells (boolsC (List.replicate k false)) 4 (some 0), O.cells (boolsC (List.replicate k false)) 4 (some 0)] := ⟨_, rfl⟩
  have hrep : rep k [Value.bool false] = boolsC (List.replicate k false) := by simp [rep, boolsC]
  have h8 : H[h2.length]? = some (O.cells (boolsC (List.replicate k false)) 4 (some 0)) := by rw [hH, app_at0]; rfl
  have h9 : H[h2.length + 1]? = some (O.cells (boolsC (List.replicate k false)) 4 (some 0)) := by rw [hH, app_at]; rfl
  have hs2H : Sub h2 H := by rw [hH]; exact (Sub.refl _).app _
  have hBH := hs2H _ _ (hs02 _ _ hBat)
  have lH : H.length = h2.length + 2 := by rw [hH]; simp
  have lh02 := hs02.len
  have hmin8 : min h0.length h2.length = h0.length := by omega
  simp [joined_fl, hf2, e1, e2, e3, e4, hrep]
  simp [← hH, rd_def, hBH]
  refine DW_loop (fun kk fr st => ∃ (i : Nat) (h : List O) (lo up : List Bool), i + kk = n ∧ st = ⟨h, h0.length⟩ ∧ (∀ (b : Nat) (o : O), h2[b]? = some o → h[b]? = some o) ∧ AtB h h2.length (.cells (boolsC lo) 4 (some 0)) ∧ AtB h (h2.length + 1) (.cells (boolsC up) 4 (some 0)) ∧ lo.length = k ∧ up.length = k ∧
   (∀ j, j < k → (bnth lo j = true ↔ ∃ i', i' < i ∧ nth xs (G.X i' 0) = j)) ∧ (∀ j, j < k → (bnth up j = true ↔ ∃ i', i' < i ∧ nth xs (G.X i' 1) = j)) ∧
   get fr 1 = .pointer (some ⟨h0.length, 0, none⟩) ∧ get fr 5 = .slice (some ⟨b, 0, none⟩) (2 * n) (2 * n) ∧ get fr 8 = .slice (some ⟨h2.length, 0, none⟩) k k ∧ get fr 9 = .slice (some ⟨h2.length + 1, 0, none⟩) k k ∧ get fr 48 = .slice a n c ∧ get fr 49 = .int .i64 n ∧ get fr 50 = .int .i64 i) ?_ (k := n) ?_
  ·rintro kk fr st ⟨i, h, lo, up, hik, rfl, hsub, hlo, hup, hll, hul, hF, hU, g1, g5, g8, g9, g48, g49, g50⟩
   have hlo' := hlo
   have hup' := hup
   unfold AtB at hlo' hup'
   have h8l := (List.getElem?_eq_some_iff.1 hlo').1
   have h9l := (List.getElem?_eq_some_iff.1 hup').1
   have hwx : ∀ i', i' < n → ∀ q, q < 4 → ∃ j : Nat, nth xs (G.X i' q) = j ∧ j < k ∧ G.X i' q < 2 * n ∧ x i' q = G.X i' q := fun i' hi' q hq => by
    have h1 := hG.X i' q (by omega) hq
    rw [hGn] at h1
    have h2 := hO.done _ h1
    have h4 : 0 ≤ x i' q := by
     have := ((kind_zero hk).1.range (4 * i' + q) (by omega)).1
     unfold use at this
     rw [show (4 * i' + q) / 4 = i' by omega, show (4 * i' + q) % 4 = q by omega] at this
     exact this
    have h5 := hXe i' q
    rcases hO.val _ h1 with h3 | h3
    ·omega
    ·exact ⟨(nth xs (G.X i' q)).toNat, by omega, by omega, h1, by omega⟩
   by_cases hi : i < n
   ·have hw : IntKind.i64.wrap ((i : Int) + 1) = (i : Int) + 1 := by rw [w64_id] <;> omega
    obtain ⟨xb, xo, hxa, hxr⟩ := hx
    obtain rfl := hxa (by omega)
    have hsub0 : Sub h0 h := ((Sub.refl h0).app _).trans ((hhB ▸ hs02).trans hsub)
    have hcr := hsub0.rdN (hxr i hi)
    rw [rdN_def] at hcr
    obtain ⟨j0, j1, j2, j3, j4⟩ := hwx i hi 0 (by omega)
    obtain ⟨u0, u1, u2, u3, u4⟩ := hwx i hi 1 (by omega)
    have hlx := hO.len
    have hjx : G.X i 0 < xs.length := by omega
    have hux : G.X i 1 < xs.length := by omega
    have hat := hsub _ _ hatB
    have hat1 : ∀ l, (h ++ l)[b]? = _ := fun l => app_of hat l
    have hlo1 : ∀ l, (h ++ l)[h2.length]? = _ := fun l => app_of hlo' l
    have hup1 : ∀ l, (h ++ l)[h2.length + 1]? = _ := fun l => app_of hup' l
    have d1 : ((G.X i 0 : Nat) : Int) < 2 * n := by omega
    have d2 : ((G.X i 1 : Nat) : Int) < 2 * n := by omega
    have d3 : j0 + 1 ≤ k := by omega
    have d4 : u0 + 1 ≤ k := by omega
    have hne : h2.length + 1 ≠ h2.length := by omega
    have hsn : ∀ l o, ((h ++ l).set h2.length o)[h2.length + 1]? = (h ++ l)[h2.length + 1]? := fun l o => List.getElem?_set_ne (by omega)
    simp only [crossC] at hcr
    simp [g1, g5, g8, g9, g48, g49, g50, hi, rdN_def, rd_def, hcr, wrN_at0, wrN_def, set_at0, app_at0, hat1, hlo1, hup1, j4, u4, d1, d2, intsC_get hjx, intsC_get hux, j1, u1, j2, u2, d3, d4, boolsC_set, hll, hul, hw, bit, hsn, hmin8]
    refine ⟨kk - 1, by omega, i + 1, by omega, _, ⟨rfl, by omega⟩, fun b' o hb' => ?_, lo.set j0 true, ?_, up.set u0 true, ?_, by simp [hll], by simp [hul], fun j hj => ?_, fun j hj => ?_, by omega⟩
    ·have := (List.getElem?_eq_some_iff.1 hb').1
     exact set_ne (set_ne (app_of (hsub _ _ hb') _) (by omega)) (by omega)
    ·exact set_ne (set_self (hlo1 _)) (by omega)
    ·exact set_self ((hsn _ _).trans (hup1 _))
    ·rw [bnth_set (by omega)]
     by_cases e : j = j0
     ·rw [if_pos e]; exact ⟨fun _ => ⟨i, by omega, by rw [j1, e]⟩, fun _ => rfl⟩
     ·rw [if_neg e, hF j hj]
      constructor
      ·rintro ⟨i', a1, a2⟩; exact ⟨i', by omega, a2⟩
      ·rintro ⟨i', a1, a2⟩
       by_cases e2 : i' = i
       ·subst e2; omega
       ·exact ⟨i', by omega, a2⟩
    ·rw [bnth_set (by omega)]
     by_cases e : j = u0
     ·rw [if_pos e]; exact ⟨fun _ => ⟨i, by omega, by rw [u1, e]⟩, fun _ => rfl⟩
     ·rw [if_neg e, hU j hj]
      constructor
      ·rintro ⟨i', a1, a2⟩; exact ⟨i', by omega, a2⟩
      ·rintro ⟨i', a1, a2⟩
       by_cases e2 : i' = i
       ·subst e2; omega
       ·exact ⟨i', by omega, a2⟩
   ·have hin : i = n := by omega
    subst hin
    have c1 := containsB_ hE (c := k) (v := false) hlo' hll (by omega)
    have c2 := containsB_ hE (c := k) (v := false) hup' hul (by omega)
    have key : ∀ q, q < 4 → ∀ bs : List Bool, (∀ j, j < k → (bnth bs j = true ↔ ∃ i', i' < i ∧ nth xs (G.X i' q) = j)) → ((¬ ∃ j, j < k ∧ bnth bs j = false) ↔ ∀ a, a < 2 * i → ∃ c, c < i ∧ SameC G (G.X c q) a) := fun q hq bs hbs => by
     constructor
     ·intro hn a ha
      have h2 := hO.done _ ha
      obtain ⟨j, hj1, hj2⟩ : ∃ j : Nat, nth xs a = j ∧ j < k := by
       rcases hO.val _ ha with h3 | h3
       ·omega
       ·exact ⟨(nth xs a).toNat, by omega, by omega⟩
      have ht : bnth bs j = true := by
       cases hb : bnth bs j
       ·exact absurd ⟨j, hj2, hb⟩ hn
       ·rfl
      obtain ⟨i', a1, a2⟩ := (hbs j hj2).1 ht
      refine ⟨i', a1, (hO.rel _ _ (hwx i' a1 q hq).choose_spec.2.2.1 ha ?_).1 (by rw [a2, hj1])⟩
      omega
     ·rintro hall ⟨j, hj, hf⟩
      obtain ⟨a, a1, a2, _⟩ := hO.ord j hj
      obtain ⟨c', b1, b2⟩ := hall a a1
      obtain ⟨j', e1, e2, e3, _⟩ := hwx c' b1 q hq
      have := (hO.rel _ _ e3 a1 (by omega)).2 b2
      have := (hbs j hj).2 ⟨c', b1, by omega⟩
      rw [this] at hf; cases hf
    have k1 := key 0 (by omega) lo hF
    have k2 := key 1 (by omega) up hU
    have hmix : MixG G ↔ (¬ ∃ j, j < k ∧ bnth lo j = false) ∧ ¬ ∃ j, j < k ∧ bnth up j = false := by
     rw [k1, k2]
     unfold MixG
     rw [hGn, hGL]
     constructor
     ·rintro ⟨_, _, _, h4⟩; exact ⟨fun a ha => (h4 a ha).1, fun a ha => (h4 a ha).2⟩
     ·rintro ⟨h4, h5⟩; exact ⟨hn, hL0, hrl, fun a ha => ⟨h4 a ha, h5 a ha⟩⟩
    by_cases d1 : ∃ j, j < k ∧ bnth lo j = false
    ·have : ¬ MixG G := fun h => (hmix.1 h).1 d1
     simp [g1, g5, g8, g9, g48, g49, g50, DC_of c1, d1, eq_true d1]
     simpa using this
    ·by_cases d2 : ∃ j, j < k ∧ bnth up j = false
     ·have : ¬ MixG G := fun h => (hmix.1 h).2 d2
      simp only [eq_false d1, eq_true d2] at c1 c2
      simp [g1, g5, g8, g9, g48, g49, g50, DC_of c1, DC_of c2]
      simpa using this
     ·have : MixG G := hmix.2 ⟨d1, d2⟩
      simp only [eq_false d1, eq_false d2] at c1 c2
      simp [g1, g5, g8, g9, g48, g49, g50, DC_of c1, DC_of c2]
      simpa using this
  ·refine ⟨0, H, List.replicate k false, List.replicate k false, by omega, rfl, fun b o hb => hs2H b o hb, h8, h9, by simp, by simp, fun j hj => ?_, fun j hj => ?_, by simp⟩
   ·rw [bnth_rep hj]; simp
   ·rw [bnth_rep hj]; simp
 ·have hrl' : ((regs G).length : Int) ≠ (n : Int) + 2 := by omega
  simp [joined_fl, hf1, hbr0 _ hs1, hbr _ hs1, hrl, hrl', hw]
  exact fun h => by have := h.2.2.1; omega
end Go.Proofs.Ytjlkndkedknocaa
namespace Go.Proofs.Ytjlkndkedknocaa
open Go Go.Ai
attribute [local instance] Classical.propDecidable
def tgt (G : Dg) (a : Nat) (inn : Bool) : Nat × Nat := if inn then (G.T a 2, G.T a 3) else (G.T a 0, G.T a 1)
theorem tgt_in {G : Dg} (hG : GoodG G) {a : Nat} (ha : a < 2 * G.n) (inn : Bool) : (tgt G a inn).1 < G.n ∧ (tgt G a inn).2 < 4 := by
 obtain ⟨t0, t1, t2, t3, _⟩ := hG.T a ha
 cases inn
 ·exact ⟨t0, t1⟩
 ·exact ⟨t2, t3⟩
theorem tgt_hit {G : Dg} (hG : GoodG G) {a i q : Nat} (ha : a < 2 * G.n) (hi : i < G.n) (hq : q < 4) (inn : Bool) : (G.X i q = a ∧ (!outB (G.s i) q) = inn) ↔ (i, q) = tgt G a inn := by
 obtain ⟨t0, t1, t2, t3, x1, x2, hne⟩ := hG.T a ha
 obtain ⟨d1, d2⟩ := hG.dir a ha
 constructor
 ·rintro ⟨h1, h2⟩
  have hc := hG.cover i q hi hq
  rw [h1] at hc
  rcases hc with ⟨e1, e2⟩ | ⟨e1, e2⟩
  ·rw [← e1, ← e2] at d1
   rw [d1] at h2
   subst h2
   simp [tgt, e1.symm, e2.symm]
  ·rw [← e1, ← e2] at d2
   rw [d2] at h2
   subst h2
   simp [tgt, e1.symm, e2.symm]
 ·intro h
  cases inn
  ·simp only [tgt, Bool.false_eq_true, if_false, Prod.mk.injEq] at h
   rw [h.1, h.2]
   exact ⟨x1, by rw [d1]; rfl⟩
  ·simp only [tgt, if_true, Prod.mk.injEq] at h
   rw [h.1, h.2]
   exact ⟨x2, by rw [d2]; rfl⟩
theorem CrossP.reads {h : List O} {b o n : Nat} {x : Nat → Nat → Int} {s : Nat → Int} (hr : ∀ i, i < n → rdN h b (o + i * 5) 5 = some (crossC (x i) (s i))) {i : Nat} (hi : i < n) : (∀ q, q < 4 → rd h b (o + i * 5 + q) = some (.int .i64 (x i q))) ∧ rd h b (o + i * 5 + 4) = some (.int .i64 (s i)) := by
 refine ⟨fun q hq => ?_, ?_⟩
 ·rw [rd_of_rdN (hr i hi) (show q < 5 by omega)]
  match q, hq with
  | 0, _ => rfl
  | 1, _ => rfl
  | 2, _ => rfl
  | 3, _ => rfl
 ·rw [rd_of_rdN (hr i hi) (show 4 < 5 by omega)]; rfl
variable {E : Env} (hE : OE E)
include hE
theorem In_ {h : List O} {x : Nat → Int} {s : Int} {q : Nat} (hs : s = 1 ∨ s = -1) (hq : q < 4) :
  DR E 192 [crossV x s, .int .i64 q] ⟨h, h.length⟩ (.ret (.bool (!outB s q))) ⟨h, h.length⟩ := by
 refine hE.fn (body := rb192) rfl ?_
 unfold rb192
 rcases hs with rfl | rfl
 all_goals
  match q, hq with
  | 0, _ => simp [crossV, rd_at0, outB]
  | 1, _ => simp [crossV, rd_at0, outB]
  | 2, _ => simp [crossV, rd_at0, outB]
  | 3, _ => simp [crossV, rd_at0, outB]
theorem end_ {h0 : List O} {a : Option Addr} {n c : Nat} {x : Nat → Nat → Int} {s : Nat → Int} {L : Int} (hx : CrossP h0 a n x s) (hS : Snd n x s L) {arc : Nat} (ha : arc < 2 * n) (inn : Bool) :
  DR E 213 [dV a n c L, .int .i64 arc, .bool inn] ⟨h0, h0.length⟩ (.ret (endV (tgt (dgOf n x s L) arc inn))) ⟨h0, h0.length⟩ := by
 refine hE.fn (body := rb213) rfl ?_
 unfold rb213
 have hG := good_of hS
 have hxe : ∀ i q, i < n → q < 4 → x i q = (dgOf n x s L).X i q := fun i q hi hq => sound_x hS hi hq
 obtain ⟨G, hGe⟩ : ∃ G, G = dgOf n x s L := ⟨_, rfl⟩
 have hGn : G.n = n := by rw [hGe]; rfl
 have hGs : G.s = s := by rw [hGe]; rfl
 rw [← hGe] at hG hxe ⊢
 have hsz := hG.size
 obtain ⟨xb, xo, hxa, hxr⟩ := hx
 obtain rfl := hxa (by omega)
 obtain ⟨t, ht⟩ : ∃ t, t = tgt G arc inn := ⟨_, rfl⟩
 obtain ⟨ht1, ht2⟩ := tgt_in hG (a := arc) (by omega) inn
 rw [← ht] at ht1 ht2 ⊢
 simp [dV, List.append_assoc]
 obtain ⟨hB, hhB⟩ : ∃ H, H = h0 ++ [O.cells [.slice (some ⟨xb, xo, none⟩) n c, .int .i64 L] 24 (some 0), O.cells [.int .i64 0, .int .i64 0] 72 (some 0)] := ⟨_, rfl⟩
 have hBs : Sub h0 hB := by rw [hhB]; exact (Sub.refl _).app _
 have hB0 : hB[h0.length]? = some (O.cells [.slice (some ⟨xb, xo, none⟩) n c, .int .i64 L] 24 (some 0)) := by rw [hhB, app_at0]; rfl
 have hB1 : hB[h0.length + 1]? = some (O.cells [.int .i64 0, .int .i64 0] 72 (some 0)) := by rw [hhB, app_at]; rfl
 rw [← hhB]
 refine DW_loop (fun kk fr st => ∃ (i : Nat), i + kk = n ∧ st = ⟨hB, h0.length⟩ ∧ 4 * i ≤ 4 * t.1 + t.2 ∧ get fr 1 = .int .i64 arc ∧ get fr 2 = .bool inn ∧ get fr 3 = .pointer (some ⟨h0.length, 0, none⟩) ∧ get fr 6 = .pointer (some ⟨h0.length + 1, 0, none⟩) ∧ get fr 7 = .int .i64 i) ?_ (k := n) ?_
 ·rintro kk fr st ⟨i, hik, rfl, hle, g1, g2, g3, g6, g7⟩
  have hi : i < n := by omega
  obtain ⟨rq, rs⟩ := CrossP.reads (fun i hi => hBs.rdN (hxr i hi)) hi
  have hcr := hBs.rdN (hxr i hi)
  rw [rdN_def] at hcr
  simp only [rd_def] at rq
  simp only [crossC] at hcr
  simp [g1, g2, g3, g6, g7, rd_def, hB0, hi]
  refine DW_loop (fun kk' fr st => ∃ (q : Nat), q + kk' = 4 ∧ st = ⟨hB, h0.length⟩ ∧ 4 * i + q ≤ 4 * t.1 + t.2 ∧ get fr 1 = .int .i64 arc ∧ get fr 2 = .bool inn ∧ get fr 3 = .pointer (some ⟨h0.length, 0, none⟩) ∧ get fr 6 = .pointer (some ⟨h0.length + 1, 0, none⟩) ∧ get fr 7 = .int .i64 i ∧ get fr 8 = .int .i64 q) ?_ (k := 4) ?_
  ·clear g1 g2 g3 g6 g7
   rintro kk' fr st ⟨q, hqk, rfl, hle, g1, g2, g3, g6, g7, g8⟩
   by_cases hq : q < 4
   ·have hq' : (q : Int) < 4 := by omega
    have hw : IntKind.i64.wrap ((q : Int) + 1) = (q : Int) + 1 := by rw [w64_id] <;> omega
    have hsg := hG.sign i (by omega)
    rw [hGs] at hsg
    have hin := fun h => In_ hE (h := h) (x := x i) (s := s i) hsg hq
    simp only [crossV] at hin
    have hit := tgt_hit hG (a := arc) (i := i) (q := q) (by omega) (by omega) hq inn
    rw [hGs, ← ht] at hit
    have hr := rq q hq
    rw [hxe i q hi hq] at hr
    have hmin : min h0.length (h0.length + 1) = h0.length := by omega
    have hself : ∀ o, (hB.set (h0.length + 1) o)[h0.length + 1]? = some o := fun o => set_self hB1
    have fin : (i, q) = t → True := fun _ => trivial
    by_cases he : G.X i q = arc
    ·by_cases hb : (!outB (s i) q) = inn
     ·have htt := hit.1 ⟨he, hb⟩
      have hb' : (outB (s i) q == !inn) = true := by rw [← hb]; simp
      simp [g1, g2, g3, g6, g7, g8, hq', rd_def, hB0, hi, hr, he, rdN_def, hcr, DC_q hin, hb, wrN_def, hB1, hmin, hself, back_scalar, Out.scalar, scalar, flat1, flat]
      rw [← htt]
      rfl
     ·have hne : (i, q) ≠ t := fun e => hb (hit.2 e).2
      have hb2 : ((!outB (s i) q) == inn) = false := by simpa using hb
      have hne2 : 4 * i + q ≠ 4 * t.1 + t.2 := fun e => hne (Prod.ext (by simp only; omega) (by simp only; omega))
      simp [g1, g2, g3, g6, g7, g8, hq', rd_def, hB0, hi, hr, he, rdN_def, hcr, DC_q hin, hb2, hw]
      exact ⟨kk' - 1, by omega, q + 1, by omega, by omega, by omega⟩
    ·have hne : (i, q) ≠ t := fun e => he (hit.2 e).1
     have hne2 : 4 * i + q ≠ 4 * t.1 + t.2 := fun e => hne (Prod.ext (by simp only; omega) (by simp only; omega))
     simp [g1, g2, g3, g6, g7, g8, hq', rd_def, hB0, hi, hr, he, hw]
     exact ⟨kk' - 1, by omega, q + 1, by omega, by omega, by omega⟩
   ·have hq4 : q = 4 := by omega
    subst hq4
    have hw : IntKind.i64.wrap ((i : Int) + 1) = (i : Int) + 1 := by rw [w64_id] <;> omega
    simp [g1, g2, g3, g6, g7, g8, hw]
    exact ⟨kk - 1, by omega, i + 1, by omega, by omega, by omega⟩
  ·exact ⟨0, by omega, rfl, by omega, by simp [g1, g2, g3, g6, g7]⟩
 ·exact ⟨0, by omega, rfl, by omega, by simp⟩
end Go.Proofs.Ytjlkndkedknocaa
namespace Go.Proofs.Ytjlkndkedknocaa
open Go Go.Ai
attribute [local instance] Classical.propDecidable
theorem DC_when {E : Env} {f : FuncId} {args : List Value} {o : Out} {P : List O → Prop} (hq : ∀ h, P h → DR E f args ⟨h, h.length⟩ o ⟨h, h.length⟩) {h : List O} {fl : Nat} (hp : P h) (e : fl = h.length) {Q : Out → St → Prop} : DC E f args ⟨h, fl⟩ Q ↔ Q o ⟨h, fl⟩ := by
 subst e; exact DC_of (hq h hp)
variable {E : Env} (hE : OE E)
include hE
theorem endIn {h0 : List O} {a : Option Addr} {n c : Nat} {x : Nat → Nat → Int} {s : Nat → Int} {L : Int} (hx : CrossP h0 a n x s) (hS : Snd n x s L) {arc : Nat} (ha : arc < 2 * n) :
  DR E 150 [dV a n c L, .int .i64 arc] ⟨h0, h0.length⟩ (.ret (endV (tgt (dgOf n x s L) arc true))) ⟨h0, h0.length⟩ := by
 refine hE.fn (body := rb150) rfl ?_
 unfold rb150
 have hc : ∀ l, CrossP (h0 ++ l) a n x s := fun l => hx.ext (Ext.snoc h0 l)
 have h1 := fun h k => end_ hE (h0 := h) (a := a) (x := x) (c := c) k hS ha true
 simp only [dV, endV] at h1
 simp [dV, rdN_at0, List.append_assoc, DC_when h1, endV, hc, joined_fl, wrN_at, set_at, rdN_at, back_scalar, Out.scalar, scalar, flat1, flat]
theorem next2_ {h0 : List O} {a : Option Addr} {n c : Nat} {x : Nat → Nat → Int} {s : Nat → Int} {L : Int} (hx : CrossP h0 a n x s) (hS : Snd n x s L) {arc : Nat} (ha : arc < 2 * n) :
  DR E 143 [dV a n c L, .int .i64 arc] ⟨h0, h0.length⟩ (.ret (.int .i64 (nx (dgOf n x s L) arc))) ⟨h0, h0.length⟩ := by
 refine hE.fn (body := rb143) rfl ?_
 unfold rb143
 have hc : ∀ l, CrossP (h0 ++ l) a n x s := fun l => hx.ext (Ext.snoc h0 l)
 have hG := good_of hS
 have h1 := fun h k => endIn hE (h0 := h) (a := a) (x := x) (c := c) k hS ha
 simp only [dV, endV] at h1
 obtain ⟨t, ht⟩ : ∃ t, t = tgt (dgOf n x s L) arc true := ⟨_, rfl⟩
 obtain ⟨ht1, ht2⟩ := tgt_in hG (a := arc) ha true
 have hnx : nx (dgOf n x s L) arc = (dgOf n x s L).X t.1 ((t.2 + 2) % 4) := by rw [ht]; rfl
 have hsz := hG.size
 rw [hnx]
 rw [← ht] at ht1 ht2 h1
 have ht1' : t.1 < n := ht1
 have hsz' : n ≤ 100000 ∨ True := .inr trivial
 obtain ⟨xb, xo, hxa, hxr⟩ := hx
 obtain rfl := hxa (by omega)
 obtain ⟨rq, rs⟩ := CrossP.reads hxr ht1'
 have hw : IntKind.i64.wrap ((t.2 : Int) + 2) = t.2 + 2 := by rw [w64_id] <;> omega
 have r1 : ∀ l, rd (h0 ++ l) xb (xo + t.1 * 5 + (t.2 + 2) % 4) = some (.int .i64 ((dgOf n x s L).X t.1 ((t.2 + 2) % 4))) := fun l => by rw [← sound_x hS ht1' (by omega)]; exact rd_append (rq _ (by omega)) l
 have hmod : ((t.2 : Int) + 2).tmod 4 = ((t.2 + 2) % 4 : Nat) := tmod_add _ 2 4
 obtain ⟨w, hww⟩ : ∃ w, w = (t.2 + 2) % 4 := ⟨_, rfl⟩
 rw [← hww] at hmod r1 ⊢
 have hlt : (w : Int) < 4 := by omega
 simp [dV, rdN_at0, rd_at, rd_at0, List.append_assoc, DC_when h1, hc, endV, ht1', hw, joined_fl, wrN_at, set_at, back_scalar, Out.scalar, scalar, flat1, flat, hmod, hlt, r1]
end Go.Proofs.Ytjlkndkedknocaa
namespace Go.Proofs.Ytjlkndkedknocaa
open Go Go.Ai
attribute [local instance] Classical.propDecidable
variable {E : Env} (hE : OE E)
include hE
theorem of_ {h0 : List O} {a : Option Addr} {n c : Nat} {x : Nat → Nat → Int} {s : Nat → Int} {L : Int} (hx : CrossP h0 a n x s) (hS : Snd n x s L) :
  DC E 65 [dV a n c L] ⟨h0, h0.length⟩ fun o st' => ∃ (xs : List Int) (k : Nat), o = .ret (.slice (some ⟨h0.length + 1, 0, none⟩) (2 * n) (2 * n)) ∧ h0.length ≤ st'.fl ∧ Sub h0 st'.h ∧
   AtB st'.h (h0.length + 1) (.cells (intsC xs) 3 (some 0)) ∧ OrbI (2 * n) (nx (dgOf n x s L)) (2 * n) k xs ∧ k ≤ 2 * n := by
 refine hE.fnC (body := rb65) rfl ?_
 unfold rb65
 have hG := good_of hS
 obtain ⟨G, hGe⟩ : ∃ G, G = dgOf n x s L := ⟨_, rfl⟩
 have hGn : G.n = n := by rw [hGe]; rfl
 have hN := nx_perm hG
 have hnxt := fun {arc : Nat} (ha : arc < 2 * n) h k => next2_ hE (h0 := h) (a := a) (x := x) (c := c) k hS ha
 simp only [dV] at hnxt
 rw [← hGe] at hG hN ⊢
 simp only [← hGe] at hnxt
 have hsz := hG.size
 rw [hGn] at hsz hN
 obtain ⟨hB, hhB⟩ : ∃ H, H = h0 ++ [O.cells [.slice a n c, .int .i64 L] 24 (some 0)] := ⟨_, rfl⟩
 have lB : hB.length = h0.length + 1 := by rw [hhB]; simp
 have sB : Sub h0 hB := by rw [hhB]; exact (Sub.refl _).app _
 have bB : hB[h0.length]? = some (O.cells [.slice a n c, .int .i64 L] 24 (some 0)) := by rw [hhB, app_at0]; rfl
 have e0 : (0 : Int) ≤ 2 * n := by omega
 have e1 : 2 * (n : Int) * 8 ≤ 140737488355328 := by omega
 have e2 : 2 * (n : Int) < 4611686018427387904 := by omega
 have e3 : (2 * (n : Int)).toNat = 2 * n := by omega
 have hw0 : IntKind.i64.wrap (2 * (n : Int)) = 2 * n := by rw [w64_id] <;> omega
 simp [dV, rd_at0, e0, e1, e2, e3, hw0, List.append_assoc]
 obtain ⟨m, hm0⟩ : ∃ m, m = h0.length + 1 := ⟨_, rfl⟩
 rw [← hm0] at lB ⊢
 refine DW_loop (fun kk fr st => ∃ (i : Nat) (h : List O) (xs : List Int), i + kk = 2 * n ∧ st = ⟨h, h0.length⟩ ∧ Sub hB h ∧ AtB h m (.cells (intsC xs) 3 (some 0)) ∧ xs.length = 2 * n ∧ (∀ j, j < i → nth xs j = -1) ∧ get fr 1 = .pointer (some ⟨h0.length, 0, none⟩) ∧ get fr 4 = .slice (some ⟨m, 0, none⟩) (2 * n) (2 * n) ∧ get fr 3 = .int .i64 (2 * n) ∧ get fr 5 = .int .i64 i) ?_ (k := 2 * n) ?_
 ·rintro kk fr st ⟨i, h, xs, hik, rfl, hsub, hatB, hlen, hm, g1, g4, g3, g5⟩
  have hat := hatB
  unfold AtB at hat
  by_cases hi : i < 2 * n
  ·have hi' : (i : Int) < 2 * n := by omega
   have hw : IntKind.i64.wrap ((i : Int) + 1) = (i : Int) + 1 := by rw [w64_id] <;> omega
   have hi2 : i < xs.length := by omega
   have hi3 : i + 1 ≤ 2 * n := by omega
   have hmin : min h0.length m = h0.length := by omega
   simp [g1, g4, g3, g5, hi, hi', wrN_def, hat, hlen, intsC_set, hw, hi3, hmin]
   refine ⟨kk - 1, by omega, i + 1, by omega, hsub.set (by omega) _, xs.set i (-1), set_self hat, by simp [hlen], fun j hj => ?_, by omega⟩
   rw [nth_set hi2]
   by_cases e : j = i
   ·rw [if_pos e]
   ·rw [if_neg e]; exact hm j (by omega)
  ·have hin : i = 2 * n := by omega
   subst hin
   simp [g1, g4, g3, g5]
   have hO := OrbI.start (f := nx G) hlen (fun j hj => hm j hj)
   refine DW_loop (fun kk fr st => ∃ (i : Nat) (h : List O) (xs : List Int) (cnt : Nat), i + kk = 2 * n ∧ st = ⟨h, h0.length⟩ ∧ Sub hB h ∧ AtB h m (.cells (intsC xs) 3 (some 0)) ∧ OrbI (2 * n) (nx G) i cnt xs ∧ cnt ≤ i ∧ get fr 1 = .pointer (some ⟨h0.length, 0, none⟩) ∧ get fr 4 = .slice (some ⟨m, 0, none⟩) (2 * n) (2 * n) ∧ get fr 6 = .int .i64 cnt ∧ get fr 3 = .int .i64 (2 * n) ∧ get fr 7 = .int .i64 i) ?_ (k := 2 * n) ?_
   ·clear g1 g4 g3 g5 hO hm hlen hat hatB hsub hik
    clear xs h
    rintro kk fr st ⟨i, h, xs, cnt, hik, rfl, hsub, hatB, hO, hcnt, g1, g4, g6, g3, g7⟩
    have hat := hatB
    unfold AtB at hat
    have hlen := hO.len
    by_cases hi : i < 2 * n
    ·have hi' : (i : Int) < 2 * n := by omega
     have hw : IntKind.i64.wrap ((i : Int) + 1) = (i : Int) + 1 := by rw [w64_id] <;> omega
     have hi2 : i < xs.length := by omega
     by_cases hf : 0 ≤ nth xs i
     ·simp [g1, g4, g6, g3, g7, hi, hi', rd_def, hat, intsC_get hi2, hf, hw]
      exact ⟨kk - 1, by omega, i + 1, by omega, hsub, xs, hatB, cnt, hO.skip hf, by omega, rfl, by omega⟩
     ·have hneg : nth xs i < 0 := by omega
      simp [g1, g4, g6, g3, g7, hi, hi', rd_def, hat, intsC_get hi2, hf]
      obtain ⟨P, ⟨p1, p2, p3⟩, p4⟩ := hN.period hi
      refine DW_loop (fun kk' fr st => ∃ (t : Nat) (h : List O) (xs' : List Int), t + kk' = P ∧ st = ⟨h, h0.length⟩ ∧ Sub hB h ∧ AtB h m (.cells (intsC xs') 3 (some 0)) ∧ OrbT (2 * n) (nx G) i cnt t xs xs' ∧ get fr 1 = .pointer (some ⟨h0.length, 0, none⟩) ∧ get fr 4 = .slice (some ⟨m, 0, none⟩) (2 * n) (2 * n) ∧ get fr 6 = .int .i64 cnt ∧ get fr 3 = .int .i64 (2 * n) ∧ get fr 7 = .int .i64 i ∧ get fr 8 = .int .i64 (itr (nx G) i t)) ?_ (k := P) ?_
      ·clear g1 g4 g6 g3 g7
       rintro kk' fr st ⟨t, h', xs', htk, rfl, hsub', hatB', hT, g1, g4, g6, g3, g7, g8⟩
       have hat' := hatB'
       unfold AtB at hat'
       have hb := hN.itr_lt hi t
       have hb' : ((itr (nx G) i t : Nat) : Int) < 2 * n := by omega
       have hb2 : itr (nx G) i t < xs'.length := by rw [hT.len]; exact hb
       have hb3 : itr (nx G) i t + 1 ≤ 2 * n := by omega
       by_cases ht : t < P
       ·have hng := hT.neg hN hO hi hneg p4 ht
        have hnx := hnxt hb
        have hss : ∀ o, Sub hB (h'.set m o) := fun o => hsub'.set (by omega) o
        have hcs : ∀ o, CrossP (h'.set m o) a n x s := fun o => hx.sub (sB.trans (hss o))
        have hbx : ∀ o, (h'.set m o)[h0.length]? = some (O.cells [.slice a n c, .int .i64 L] 24 (some 0)) := fun o => hss o _ _ bB
        have hmin : min h0.length m = h0.length := by omega
        simp [g1, g4, g6, g3, g7, g8, hb', rd_def, wrN_def, hat', intsC_get hb2, hng, intsC_set, hT.len, hb3, hmin, rdN_def, hbx, DC_when hnx, hcs, joined_fl]
        exact ⟨kk' - 1, by omega, t + 1, by omega, hsub'.set (by omega) _, _, set_self hat', hT.next hb, rfl⟩
       ·have : t = P := by omega
        subst this
        have hng : ¬ nth xs' (itr (nx G) i t) < 0 := by
         rw [hT.at_, if_pos ⟨0, p1, by rw [p2]; rfl⟩]; omega
        have hw2 : IntKind.i64.wrap ((cnt : Int) + 1) = (cnt : Int) + 1 := by rw [w64_id] <;> omega
        simp [g1, g4, g6, g3, g7, g8, hb', rd_def, hat', intsC_get hb2, hng, hw, hw2]
        exact ⟨kk - 1, by omega, i + 1, by omega, hsub', xs', hatB', cnt + 1, hT.finish hN hO hi hneg p1 p2, by omega, by omega, by omega⟩
      ·exact ⟨0, h, xs, by omega, rfl, hsub, hatB, OrbT.start hO, by simp [g1, g4, g6, g3, g7, itr]⟩
    ·have hin : i = 2 * n := by omega
     have hi' : ¬ (i : Int) < 2 * n := by omega
     simp [g1, g4, g6, g3, g7, hi', endK_ret]
     unfold pairQ back
     rw [if_neg (by simp [Out.scalar, scalar, flat1, flat])]
     rw [hin] at hO hcnt
     exact ⟨rfl, Nat.le_refl _, sB.trans hsub, xs, hatB, cnt, hO, hcnt⟩
   ·exact ⟨0, h, xs, 0, by omega, rfl, hsub, hatB, hO, by omega, by simp [g1, g4, g3]⟩
 ·refine ⟨0, _, List.replicate (2 * n) 0, by omega, rfl, ?_, ?_, by simp, fun j h => by omega, by simp⟩
  ·rw [hhB]
   exact (Ext.sub ⟨[O.cells (rep (2 * n) [.int .i64 0]) 3 (some 0)], by simp⟩)
  ·unfold AtB
   rw [hm0, app_at]
   simp [rep, intsC]
end Go.Proofs.Ytjlkndkedknocaa
namespace Go.Proofs.Ytjlkndkedknocaa
open Go Go.Ai
attribute [local instance] Classical.propDecidable
variable {E : Env} (hE : OE E)
include hE
theorem count_ {h0 : List O} {a : Option Addr} {n c : Nat} {x : Nat → Nat → Int} {s : Nat → Int} {L : Int} (hx : CrossP h0 a n x s) (hS : Snd n x s L) :
  DC E 31 [dV a n c L] ⟨h0, h0.length⟩ fun o st' => ∃ (xs : List Int) (k : Nat), OrbI (2 * n) (nx (dgOf n x s L)) (2 * n) k xs ∧ k ≤ 2 * n ∧ o = .ret (.int .i64 (k + L)) ∧ st' = ⟨h0, h0.length⟩ := by
 refine hE.fnC (body := rb31) rfl ?_
 unfold rb31
 have hG := good_of hS
 have hsz : n ≤ 200 := hG.size
 have hL : 0 ≤ L ∧ L ≤ 200 := hG.loops
 have h1 := of_ hE (c := c) (hx.ext (Ext.snoc h0 [O.cells [.slice a n c, .int .i64 L] 24 (some 0)])) hS
 simp [dV] at h1
 simp [dV, rdN_at0]
 refine h1.imp ?_
 rintro o ⟨h2, f2⟩ ⟨rfl, hf, hs, xs, hat, k, hO, hk⟩
 simp only at hf hs hat
 have hbox : h2[h0.length]? = some (O.cells [.slice a n c, .int .i64 L] 24 (some 0)) := hs _ _ (app_at0 _ _)
 obtain ⟨m, hm⟩ : ∃ m, m = h0.length + 1 + 1 := ⟨_, rfl⟩
 have hlen := hO.len
 unfold AtB at hat
 simp [joined_fl, hf]
 rw [← hm] at hat ⊢
 refine DW_loop (fun kk fr st => ∃ (i w : Nat), i + kk = 2 * n ∧ st = ⟨h2, h0.length⟩ ∧ (∀ j, j < i → nth xs j + 1 ≤ w) ∧ w ≤ k ∧ get fr 1 = .pointer (some ⟨h0.length, 0, none⟩) ∧ get fr 3 = .slice (some ⟨m, 0, none⟩) (2 * n) (2 * n) ∧ get fr 4 = .int .i64 w ∧ get fr 5 = .int .i64 i) ?_ (k := 2 * n) ?_
 ·rintro kk fr st ⟨i, w, hik, rfl, hw, hwk, g1, g3, g4, g5⟩
  by_cases hi : i < 2 * n
  ·have hi' : (i : Int) < 2 * n := by omega
   have hwr : IntKind.i64.wrap ((i : Int) + 1) = (i : Int) + 1 := by rw [w64_id] <;> omega
   have hi2 : i < xs.length := by omega
   have hd := hO.done i hi
   have hv : nth xs i < k := by rcases hO.val i hi with h | h <;> omega
   have hwr2 : IntKind.i64.wrap (nth xs i + 1) = nth xs i + 1 := by rw [w64_id] <;> omega
   simp [g1, g3, g4, g5, hi, hi', rd_def, hat, intsC_get hi2, hwr, hwr2]
   refine ⟨kk - 1, by omega, i + 1, by omega, max w ((nth xs i).toNat + 1), fun j hj => ?_, by omega, by omega, by omega⟩
   by_cases e : j = i
   ·rw [e]; omega
   ·have := hw j (by omega); omega
  ·have hin : i = 2 * n := by omega
   have hi' : ¬ (i : Int) < 2 * n := by omega
   have hwk2 : w = k := by
    apply Classical.byContradiction
    intro hne
    obtain ⟨a', ha1, ha2, _⟩ := hO.ord w (by omega)
    have := hw a' (by omega)
    omega
   have hwr : IntKind.i64.wrap ((k : Int) + L) = k + L := by rw [w64_id] <;> omega
   subst hwk2
   simp [g1, g3, g4, g5, hi', rd_def, hbox, hwr, back_scalar, Out.scalar, scalar, flat1, flat]
   exact ⟨⟨xs, hO⟩, hk⟩
 ·exact ⟨0, 0, by omega, rfl, fun j hj => by omega, by omega, by simp⟩
end Go.Proofs.Ytjlkndkedknocaa
namespace Go.Ai
def OwnT (h : List O) (lo : Nat) (v : Value) (k : Nat) (cs : List Value) (el : TypeId) (size : Nat) : Prop := (v = emptyS ∧ k = 0 ∧ cs = []) ∨ OwnS h lo v k cs el size
theorem OwnT.keep {h h' : List O} {lo k : Nat} {v : Value} {cs : List Value} {el : TypeId} {size : Nat} (ho : OwnT h lo v k cs el size) (hk : ∀ b s, v = .slice (some ⟨b, 0, none⟩) k k → lo ≤ b → h[b]? = some (.cells cs el (some s)) → h'[b]? = some (.cells cs el (some s))) : OwnT h' lo v k cs el size := by
 rcases ho with h1 | ⟨h0, h1 | ⟨b, s, h1, h2, h3, h4⟩⟩
 ·exact .inl h1
 ·exact .inr ⟨h0, .inl h1⟩
 ·exact .inr ⟨h0, .inr ⟨b, s, h1, h2, hk b s h1 h2 h3, h4⟩⟩
theorem OwnT.len {h : List O} {lo k : Nat} {v : Value} {cs : List Value} {el : TypeId} {size : Nat} (ho : OwnT h lo v k cs el size) : cs.length = k * size := by
 rcases ho with ⟨_, rfl, rfl⟩ | h1
 ·simp
 ·exact h1.1
theorem OwnT.look {h : List O} {lo k : Nat} {v : Value} {cs : List Value} {el : TypeId} {size : Nat} (ho : OwnT h lo v k cs el size) : ∃ a, v = .slice a k k ∧ (0 < k → ∃ b s, a = some ⟨b, 0, none⟩ ∧ lo ≤ b ∧ h[b]? = some (.cells cs el (some s))) := by
 rcases ho with ⟨rfl, rfl, rfl⟩ | ⟨_, ⟨rfl, rfl⟩ | ⟨b, s, rfl, h2, h3, h4⟩⟩
 ·exact ⟨_, rfl, fun h => absurd h (by omega)⟩
 ·exact ⟨_, rfl, fun h => absurd h (by omega)⟩
 ·exact ⟨_, rfl, fun _ => ⟨b, s, rfl, h2, h3⟩⟩
theorem append_T {H : List O} {lo k n fl c : Nat} {v : Value} {cs new : List Value} {el : TypeId} {size bytes : Nat} {xb : Option Addr}
  (ho : OwnT H lo v k cs el size) (hx : readSlice H size n xb = some new) (hnew : new.length = n * size) (hone : new.all one1 = true) (hlo : lo ≤ H.length) (hroom : (k + n) * bytes ≤ roomMax) (hn : 0 < n) :
  ∃ b' H' fl', appendV el size bytes v (.slice xb n c) ⟨H, fl⟩ = some (.slice (some ⟨b', 0, none⟩) (k + n) (k + n), ⟨H', fl'⟩) ∧ H.length ≤ b' ∧ OwnT H' lo (.slice (some ⟨b', 0, none⟩) (k + n) (k + n)) (k + n) (cs ++ new) el size ∧ min fl lo ≤ fl' ∧ fl' ≤ fl ∧ H.length ≤ H'.length ∧
   (∀ (b : Nat) (o : O), H[b]? = some o → (b < lo ∨ ∀ c : List Value, ∀ s, o ≠ .cells c el s) → H'[b]? = some o) := by
 rcases ho with ⟨rfl, rfl, rfl⟩ | ho
 ·refine ⟨H.length, H ++ [.cells ([] ++ new) el (some size)], fl, ?_, Nat.le_refl _, .inr ⟨?_, .inr ⟨H.length, size, rfl, hlo, ?_, .inr rfl⟩⟩, by omega, Nat.le_refl _, by simp, fun b o e _ => app_of e _⟩
  ·simp only [appendV, emptyS, hx, bind, Option.bind_some, appendCells]
   rw [if_neg (by omega), if_neg (by omega), if_pos ⟨hroom, hone⟩]
   simp [readSlice, kill]
  ·simp [hnew]
  ·simp
 ·obtain ⟨b', H', fl', h1, h2, h3, h4, h5, h6, h7⟩ := append_S (fl := fl) (c := c) (bytes := bytes) ho hx hnew hone hlo hroom hn
  refine ⟨b', H', fl', h1, h2, .inr h3, h4, h5, h6, fun b o e hd => h7 b o e fun n' c' ev => ?_⟩
  subst ev
  rcases ho.2 with ⟨e1, _⟩ | ⟨b2, s, e1, e2, e3, _⟩
  ·cases e1
  ·simp only [Value.slice.injEq, Option.some.injEq, Addr.mk.injEq] at e1
   obtain ⟨⟨rfl, _⟩, _⟩ := e1
   rw [e3] at e
   obtain rfl := Option.some.inj e
   rcases hd with hd | hd
   ·omega
   ·exact hd _ _ rfl
end Go.Ai
namespace Go.Proofs.Ytjlkndkedknocaa
open Go Go.Ai
attribute [local instance] Classical.propDecidable
variable {E : Env} (hE : OE E)
include hE
end Go.Proofs.Ytjlkndkedknocaa
namespace Go.Proofs.Ytjlkndkedknocaa
open Go Go.Ai
attribute [local instance] Classical.propDecidable
variable {E : Env} (hE : OE E)
include hE
end Go.Proofs.Ytjlkndkedknocaa
namespace Go.Proofs.Ytjlkndkedknocaa
open Go Go.Ai
attribute [local instance] Classical.propDecidable
def RegsQ (h : List O) (lo : Nat) (v : Value) (L : List (List (Nat × Nat))) : Prop :=
 ∃ vs, OwnT h lo v L.length vs 215 1 ∧ ∀ (i : Nat) r, L[i]? = some r → ∃ v', vs[i]? = some v' ∧ OwnS h lo v' r.length (cellsL r) 72 2
theorem RegsQ.keep {h h' : List O} {lo : Nat} {v : Value} {L : List (List (Nat × Nat))} (k : RegsQ h lo v L) (hk : Sub h h') : RegsQ h' lo v L := by
 obtain ⟨vs, h1, h2⟩ := k
 refine ⟨vs, h1.keep fun b s _ _ e => hk _ _ e, fun i r hr => ?_⟩
 obtain ⟨v', h3, h4⟩ := h2 i r hr
 exact ⟨v', h3, h4.keep fun b s _ e => hk _ _ e⟩
theorem RegsQ.low {h : List O} {lo lo' : Nat} {v : Value} {L : List (List (Nat × Nat))} (k : RegsQ h lo v L) (hl : lo' ≤ lo) : RegsQ h lo' v L := by
 have low : ∀ {v k cs el size}, OwnS h lo v k cs el size → OwnS h lo' v k cs el size := fun ⟨h0, h1⟩ => by
  rcases h1 with h1 | ⟨b, s, h1, h2, h3⟩
  ·exact ⟨h0, .inl h1⟩
  ·exact ⟨h0, .inr ⟨b, s, h1, Nat.le_trans hl h2, h3⟩⟩
 obtain ⟨vs, h1, h2⟩ := k
 refine ⟨vs, ?_, fun i r hr => ?_⟩
 ·rcases h1 with h1 | h1
  ·exact .inl h1
  ·exact .inr (low h1)
 ·obtain ⟨v', h3, h4⟩ := h2 i r hr
  exact ⟨v', h3, low h4⟩
theorem RegsQ.at_ {h : List O} {lo : Nat} {v : Value} {L : List (List (Nat × Nat))} (k : RegsQ h lo v L) : ∃ a, v = .slice a L.length L.length ∧
  ∀ (i : Nat) r, L[i]? = some r → r ≠ [] → ∃ b b' s s' vs, a = some ⟨b, 0, none⟩ ∧ lo ≤ b ∧ lo ≤ b' ∧ h[b]? = some (.cells vs 215 (some s)) ∧ vs[i]? = some (.slice (some ⟨b', 0, none⟩) r.length r.length) ∧ h[b']? = some (.cells (cellsL r) 72 (some s')) := by
 obtain ⟨vs, h1, h2⟩ := k
 obtain ⟨a, rfl, ha⟩ := h1.look
 refine ⟨a, rfl, fun i r hr hne => ?_⟩
 have hi := (List.getElem?_eq_some_iff.1 hr).1
 obtain ⟨b, s, rfl, hb1, hb2⟩ := ha (by omega)
 obtain ⟨v', h3, h4, h5⟩ := h2 i r hr
 rcases h5 with ⟨_, h6⟩ | ⟨b', s', rfl, h7, h8, _⟩
 ·exact absurd (List.length_eq_zero_iff.1 h6) hne
 ·exact ⟨b, b', s, s', vs, rfl, hb1, h7, hb2, h3, h8⟩
theorem RegsQ.push {h : List O} {lo fl c : Nat} {v v' : Value} {xb : Option Addr} {L : List (List (Nat × Nat))} {r : List (Nat × Nat)} (k : RegsQ h lo v L) (ho : OwnS h lo v' r.length (cellsL r) 72 2) (hx : readSlice h 1 1 xb = some [v']) (hone : one1 v' = true) (hlo : lo ≤ h.length) (hroom : (L.length + 1) * 24 ≤ roomMax) :
  ∃ b' h' fl', appendV 215 1 24 v (.slice xb 1 c) ⟨h, fl⟩ = some (.slice (some ⟨b', 0, none⟩) (L.length + 1) (L.length + 1), ⟨h', fl'⟩) ∧ RegsQ h' lo (.slice (some ⟨b', 0, none⟩) (L.length + 1) (L.length + 1)) (L ++ [r]) ∧ min fl lo ≤ fl' ∧ fl' ≤ fl ∧ h.length ≤ h'.length ∧
   (∀ (b : Nat) (o : O), h[b]? = some o → (b < lo ∨ ∀ c : List Value, ∀ s, o ≠ .cells c 215 s) → h'[b]? = some o) := by
 obtain ⟨vs, h1, h2⟩ := k
 have hl := h1.len
 obtain ⟨b', h', fl', e1, e2, e3, e4, e5, e6, hs⟩ := append_T (fl := fl) (c := c) (bytes := 24) h1 hx rfl (by simp [hone]) hlo hroom (by omega)
 have keep : ∀ {v k cs}, OwnS h lo v k cs 72 2 → OwnS h' lo v k cs 72 2 := fun h => h.keep fun b s _ e => hs _ _ e (.inr fun c s' e' => by cases e')
 refine ⟨b', h', fl', e1, ⟨vs ++ [v'], by rw [List.length_append]; exact e3, fun i q hq => ?_⟩, e4, e5, e6, hs⟩
 by_cases hi : i < L.length
 ·rw [List.getElem?_append_left hi] at hq
  obtain ⟨v2, h3, h4⟩ := h2 i q hq
  exact ⟨v2, by rw [List.getElem?_append_left (by omega)]; exact h3, keep h4⟩
 ·rw [List.getElem?_append_right (by omega)] at hq
  have e0 : i - L.length = 0 := by
   rcases Nat.eq_zero_or_pos (i - L.length) with h | h
   ·exact h
   ·rw [List.getElem?_eq_none (by simp; omega)] at hq; cases hq
  rw [e0] at hq
  obtain rfl := Option.some.inj hq
  exact ⟨v', by rw [List.getElem?_append_right (by omega), show i - vs.length = 0 by omega]; rfl, keep ho⟩
theorem OwnS.low {h : List O} {lo lo' k : Nat} {v : Value} {cs : List Value} {el : TypeId} {size : Nat} (ho : OwnS h lo v k cs el size) (hl : lo' ≤ lo) : OwnS h lo' v k cs el size := by
 obtain ⟨h0, h1⟩ := ho
 rcases h1 with h1 | ⟨b, s, h1, h2, h3⟩
 ·exact ⟨h0, .inl h1⟩
 ·exact ⟨h0, .inr ⟨b, s, h1, Nat.le_trans hl h2, h3⟩⟩
theorem RegsQ.scalar {h : List O} {lo : Nat} {v : Value} {L : List (List (Nat × Nat))} (k : RegsQ h lo v L) (hs : Ai.scalar v = true) : L = [] ∧ ∀ h', RegsQ h' lo v L := by
 obtain ⟨vs, h1, h2⟩ := k
 rcases h1 with ⟨rfl, h3, rfl⟩ | ⟨h4, ⟨rfl, h5⟩ | ⟨b, s, rfl, h6⟩⟩
 ·have : L = [] := List.length_eq_zero_iff.1 h3
  subst this
  exact ⟨rfl, fun h' => ⟨[], .inl ⟨rfl, rfl, rfl⟩, fun i r h => by simp at h⟩⟩
 ·have : L = [] := List.length_eq_zero_iff.1 h5
  subst this
  exact ⟨rfl, fun h' => ⟨vs, .inr ⟨h4, .inl ⟨rfl, rfl⟩⟩, fun i r h => by simp at h⟩⟩
 ·simp [Ai.scalar, flat1, flat] at hs
end Go.Proofs.Ytjlkndkedknocaa
namespace Go.Proofs.Ytjlkndkedknocaa
open Go Go.Ai
attribute [local instance] Classical.propDecidable
variable {E : Env} (hE : OE E)
include hE
end Go.Proofs.Ytjlkndkedknocaa
namespace Go.Ai
attribute [local instance] Classical.propDecidable
theorem OwnT.scalar {h : List O} {lo k : Nat} {v : Value} {cs : List Value} {el : TypeId} {size : Nat} (ho : OwnT h lo v k cs el size) (hs : Ai.scalar v = true) (h' : List O) : OwnT h' lo v k cs el size := by
 rcases ho with h1 | ⟨h4, ⟨rfl, h5⟩ | ⟨b, s, rfl, h6⟩⟩
 ·exact .inl h1
 ·exact .inr ⟨h4, .inl ⟨rfl, h5⟩⟩
 ·simp [Ai.scalar, flat1, flat] at hs
theorem OwnT.low {h : List O} {lo lo' k : Nat} {v : Value} {cs : List Value} {el : TypeId} {size : Nat} (ho : OwnT h lo v k cs el size) (hl : lo' ≤ lo) : OwnT h lo' v k cs el size := by
 rcases ho with h1 | ⟨h0, h1⟩
 ·exact .inl h1
 ·rcases h1 with h1 | ⟨b, s, h1, h2, h3⟩
  ·exact .inr ⟨h0, .inl h1⟩
  ·exact .inr ⟨h0, .inr ⟨b, s, h1, Nat.le_trans hl h2, h3⟩⟩
end Go.Ai
namespace Go.Proofs.Ytjlkndkedknocaa
open Go Go.Ai
attribute [local instance] Classical.propDecidable
noncomputable def outN (bs : List Bool) (n : Nat) : Nat := cntP (fun i => bnth bs i = false) n
structure PcI (G : Dg) (c : Nat) (bs : List Bool) : Prop where
 len : bs.length = G.n
 root : bnth bs c = true
 conn : ∀ i, i < G.n → bnth bs i = true → Conn G c i
def Cl (G : Dg) (bs : List Bool) (k j : Nat) : Prop := ∀ k' q, k' < G.n → q < 4 → (k' < k ∨ k' = k ∧ q < j) → bnth bs k' = true → bnth bs (oth G (k', q)).1 = true
theorem Cl.step {G : Dg} {bs : List Bool} {k j : Nat} (h : Cl G bs k j) (hb : bnth bs (oth G (k, j)).1 = true) : Cl G bs k (j + 1) := by
 intro k' q h1 h2 h3 h4
 by_cases e : k' = k ∧ q = j
 ·rw [e.1, e.2]; exact hb
 ·exact h k' q h1 h2 (by omega) h4
theorem Cl.next {G : Dg} {bs : List Bool} {k j : Nat} (h : Cl G bs k j) (hb : bnth bs k = false ∨ 4 ≤ j) : Cl G bs (k + 1) 0 := by
 intro k' q h1 h2 h3 h4
 refine h k' q h1 h2 ?_ h4
 rcases hb with hb | hb
 ·left
  have : k' ≠ k := fun e => by rw [e, hb] at h4; cases h4
  omega
 ·omega
theorem PcI.set {G : Dg} (hG : GoodG G) {c k j : Nat} {bs : List Bool} (h : PcI G c bs) (hk : k < G.n) (hj : j < 4) (hb : bnth bs k = true) : PcI G c (bs.set (oth G (k, j)).1 true) := by
 have hn := (nb hG hk hj).1
 have hl := h.len
 refine ⟨by simp [hl], ?_, fun i hi => ?_⟩
 ·rw [bnth_set (by omega)]
  split
  ·rfl
  ·exact h.root
 ·rw [bnth_set (by omega)]
  split
  ·rename_i e
   intro _
   rw [e]
   exact (h.conn k hk hb).step j hj
  ·exact h.conn i hi
theorem Cl.iff {G : Dg} (hG : GoodG G) {c : Nat} {bs : List Bool} (h : PcI G c bs) (hc : c < G.n) (k : Cl G bs G.n 0) {i : Nat} (hi : i < G.n) : bnth bs i = true ↔ Conn G c i := by
 refine ⟨h.conn i hi, fun hC => ?_⟩
 have key : ∀ b, Conn G c b → bnth bs b = true := by
  intro b hb
  induction hb with
  | refl => exact h.root
  | @step b q hab hq ih => exact k b q (hab.lt hG hc) hq (.inl (hab.lt hG hc)) ih
 exact key i hC
variable {E : Env} (hE : OE E)
include hE
end Go.Proofs.Ytjlkndkedknocaa
namespace Go.Ai
attribute [local instance] Classical.propDecidable
end Go.Ai
namespace Go.Proofs.Ytjlkndkedknocaa
open Go Go.Ai
attribute [local instance] Classical.propDecidable
noncomputable def pieceL (G : Dg) (c : Nat) : List Nat := (List.range G.n).filter fun i => decide (Conn G c i)
def PlanC (G : Dg) (c : Nat) : Prop := cntP (fun t => Conn G c (rhead G t)) (regs G).length = 2 + cntP (fun i => Conn G c i) G.n
def natsC (l : List Nat) : List Value := l.map fun i => .int .i64 (i : Nat)
theorem natsC_get {l : List Nat} {i a : Nat} (h : l[i]? = some a) : (natsC l)[i]? = some (.int .i64 a) := by simp [natsC, h]
variable {E : Env} (hE : OE E)
include hE
end Go.Proofs.Ytjlkndkedknocaa
namespace Go.Ai
attribute [local instance] Classical.propDecidable
end Go.Ai
namespace Go.Proofs.Ytjlkndkedknocaa
open Go Go.Ai
attribute [local instance] Classical.propDecidable
noncomputable def useN (x : Nat → Nat → Int) (s : Nat → Int) (a : Nat) (b : Bool) (J : Nat) : Nat := cntP (fun k => use x s k = ((a : Int), b)) J
structure SI (n : Nat) (x : Nat → Nat → Int) (s : Nat → Int) (J : Nat) (bs es : List Int) : Prop where
 lb : bs.length = 2 * n
 le : es.length = 2 * n
 cb : ∀ a, a < 2 * n → nth bs a = useN x s a true J
 ce : ∀ a, a < 2 * n → nth es a = useN x s a false J
 rg : ∀ j, j < J → 0 ≤ (use x s j).1 ∧ (use x s j).1 < 2 * n
variable {E : Env} (hE : OE E)
include hE
end Go.Proofs.Ytjlkndkedknocaa
namespace Go.Proofs.Ytjlkndkedknocaa
open Go Go.Ai
attribute [local instance] Classical.propDecidable
variable {E : Env} (hE : OE E)
include hE
end Go.Proofs.Ytjlkndkedknocaa
namespace Go.Proofs.Ytjlkndkedknocaa
open Go Go.Ai
attribute [local instance] Classical.propDecidable
noncomputable def mixD (n : Nat) (x : Nat → Nat → Int) (s : Nat → Int) (L : Int) : Bool := decide (kindD n x s L = 0 ∧ MixG (dgOf n x s L))
noncomputable def askD (n : Nat) (x : Nat → Nat → Int) (s : Nat → Int) (L : Int) : Int := if kindD n x s L ≠ 0 then kindD n x s L else if MixG (dgOf n x s L) then 0 else 290
theorem ask_zero {n : Nat} {x : Nat → Nat → Int} {s : Nat → Int} {L : Int} (h : askD n x s L = 0) : kindD n x s L = 0 ∧ MixG (dgOf n x s L) := by
 unfold askD at h
 by_cases h1 : kindD n x s L = 0
 ·rw [if_neg (by simpa using h1)] at h
  by_cases h2 : MixG (dgOf n x s L)
  ·exact ⟨h1, h2⟩
  ·rw [if_neg h2] at h; cases h
 ·rw [if_pos h1] at h; exact absurd h h1
variable {E : Env} (hE : OE E)
include hE
theorem Mixed_ {h0 : List O} {a : Option Addr} {n c : Nat} {x : Nat → Nat → Int} {s : Nat → Int} {L : Int} (hx : CrossP h0 a n x s) :
  DR E 19 [dV a n c L] ⟨h0, h0.length⟩ (.ret (.bool (mixD n x s L))) ⟨h0, h0.length⟩ := by
 refine hE.fn (body := rb19) rfl ?_
 unfold rb19
 have hx1 : CrossP (h0 ++ [O.cells [.slice a n c, .int .i64 L] 24 (some 0)]) a n x s := hx.ext (Ext.snoc _ _)
 have h1 := check_ hE (c := c) (L := L) hx1
 simp [dV] at h1
 by_cases hk : kindD n x s L = 0
 ·have h2 := mixed_ hE (c := c) hx1 hk
  simp [dV] at h2
  simp [dV, rdN_at0, DC_of h1, DC_of h2, hk, joined, mixD]
 ·simp [dV, rdN_at0, DC_of h1, hk, joined, mixD]
theorem asked_ {h0 : List O} {a : Option Addr} {n c : Nat} {x : Nat → Nat → Int} {s : Nat → Int} {L : Int} (hx : CrossP h0 a n x s) :
  DR E 84 [dV a n c L] ⟨h0, h0.length⟩ (.ret (.int .i64 (askD n x s L))) ⟨h0, h0.length⟩ := by
 refine hE.fn (body := rb84) rfl ?_
 unfold rb84
 have hx1 : CrossP (h0 ++ [O.cells [.slice a n c, .int .i64 L] 24 (some 0)]) a n x s := hx.ext (Ext.snoc _ _)
 have h1 := check_ hE (c := c) (L := L) hx1
 simp [dV] at h1
 by_cases hk : kindD n x s L = 0
 ·have h2 := mixed_ hE (c := c) hx1 hk
  simp [dV] at h2
  by_cases hm : MixG (dgOf n x s L)
  ·simp [hm] at h2
   simp [dV, rdN_at0, DC_of h1, DC_of h2, hk, joined, askD, hm]
  ·simp [hm] at h2
   simp [dV, rdN_at0, DC_of h1, DC_of h2, hk, joined, askD, hm]
 ·simp [dV, rdN_at0, DC_of h1, hk, joined, askD]
theorem comesIn_ {h : List O} {x : Nat → Int} {s : Int} {q : Nat} (hs : s = 1 ∨ s = -1) (hq : q < 4) :
  DR E 222 [crossV x s, .int .i64 q] ⟨h, h.length⟩ (.ret (.bool (!outB s q))) ⟨h, h.length⟩ := by
 refine hE.fn (body := rb222) rfl ?_
 unfold rb222
 rcases hs with rfl | rfl
 all_goals
  match q, hq with
  | 0, _ => simp [crossV, rd_at0, outB]
  | 1, _ => simp [crossV, rd_at0, outB]
  | 2, _ => simp [crossV, rd_at0, outB]
  | 3, _ => simp [crossV, rd_at0, outB]
theorem turned_ {h : List O} {c p e : Nat} {d : Int} (he : (p : Int) + d + 4 = e) (hd : -4 ≤ d ∧ d ≤ 4) (hp : p < 4) :
  DR E 154 [endV (c, p), .int .i64 d] ⟨h, h.length⟩ (.ret (endV (c, e % 4))) ⟨h, h.length⟩ := by
 refine hE.fn (body := rb154) rfl ?_
 unfold rb154
 have hw1 : IntKind.i64.wrap ((p : Int) + d) = (p : Int) + d := by rw [w64_id] <;> omega
 have hw2 : IntKind.i64.wrap ((p : Int) + d + 4) = (e : Nat) := by rw [he, w64_id] <;> omega
 have hm : ((e : Nat) : Int).tmod 4 = ((e % 4 : Nat) : Int) := tmod_nat e 4
 have hle : h.length ≤ h.length + 1 := by omega
 simp [endV, rd_at0, rd_at, rdN_at, rdN_at0, wrN_at, wrN_at0, set_at, List.append_assoc, hw1, hw2, hm, back_scalar, Out.scalar, scalar, flat1, flat]
def permV (a b c d : Int) : Value := .agg #[.int .i64 a, .int .i64 b, .int .i64 c, .int .i64 d]
theorem valid0 {h : List O} {a b : Int} (hab : a = 0 ∧ b = 1 ∨ a = 1 ∧ b = 0) : DR E 237 [permV a b 2 3] ⟨h, h.length⟩ (.ret (.bool true)) ⟨h, h.length⟩ := by
 refine hE.fn (body := rb237) rfl ?_
 unfold rb237
 have o1 : binV .shl (.int .i64 1) (.int .i64 0) = some (.int .i64 1) := rfl
 have o2 : binV .shl (.int .i64 1) (.int .i64 1) = some (.int .i64 2) := rfl
 have o3 : binV .shl (.int .i64 1) (.int .i64 2) = some (.int .i64 4) := rfl
 have o4 : binV .shl (.int .i64 1) (.int .i64 3) = some (.int .i64 8) := rfl
 have p1 : binV .or (.int .i64 0) (.int .i64 1) = some (.int .i64 1) := rfl
 have p2 : binV .or (.int .i64 1) (.int .i64 2) = some (.int .i64 3) := rfl
 have p3 : binV .or (.int .i64 3) (.int .i64 4) = some (.int .i64 7) := rfl
 have p4 : binV .or (.int .i64 7) (.int .i64 8) = some (.int .i64 15) := rfl
 have p5 : binV .or (.int .i64 0) (.int .i64 2) = some (.int .i64 2) := rfl
 have p6 : binV .or (.int .i64 2) (.int .i64 1) = some (.int .i64 3) := rfl
 have w1 : IntKind.i64.wrap 1 = 1 := by decide
 have w2 : IntKind.i64.wrap 2 = 2 := by decide
 have w3 : IntKind.i64.wrap 3 = 3 := by decide
 have w4 : IntKind.i64.wrap 4 = 4 := by decide
 rcases hab with ⟨rfl, rfl⟩ | ⟨rfl, rfl⟩
 all_goals
  simp [permV, rdN_at0]
  rw [DW_loop_unfold]; simp [partL, o1, o2, o3, o4, p1, p2, p3, p4, p5, p6, w1, w2, w3, w4]
  rw [DW_loop_unfold]; simp [partL, o1, o2, o3, o4, p1, p2, p3, p4, p5, p6, w1, w2, w3, w4]
  rw [DW_loop_unfold]; simp [partL, o1, o2, o3, o4, p1, p2, p3, p4, p5, p6, w1, w2, w3, w4]
  rw [DW_loop_unfold]; simp [partL, o1, o2, o3, o4, p1, p2, p3, p4, p5, p6, w1, w2, w3, w4]
  rw [DW_loop_unfold]; simp [partL, o1, o2, o3, o4, p1, p2, p3, p4, p5, p6, w1, w2, w3, w4]
theorem inverse0 {h : List O} {a b : Int} (hab : a = 0 ∧ b = 1 ∨ a = 1 ∧ b = 0) : DR E 238 [permV a b 2 3] ⟨h, h.length⟩ (.ret (permV a b 2 3)) ⟨h, h.length⟩ := by
 refine hE.fn (body := rb238) rfl ?_
 unfold rb238
 have w1 : IntKind.i64.wrap 1 = 1 := by decide
 have w2 : IntKind.i64.wrap 2 = 2 := by decide
 have w3 : IntKind.i64.wrap 3 = 3 := by decide
 have w4 : IntKind.i64.wrap 4 = 4 := by decide
 rcases hab with ⟨rfl, rfl⟩ | ⟨rfl, rfl⟩
 all_goals
  simp [permV, rdN_at0, List.append_assoc]
  rw [DW_loop_unfold]; simp [partL, wrN_at, set_at, w1, w2, w3, w4, List.append_assoc]
  rw [DW_loop_unfold]; simp [partL, wrN_at, set_at, w1, w2, w3, w4, List.append_assoc]
  rw [DW_loop_unfold]; simp [partL, wrN_at, set_at, w1, w2, w3, w4, List.append_assoc]
  rw [DW_loop_unfold]; simp [partL, wrN_at, set_at, w1, w2, w3, w4, List.append_assoc]
  rw [DW_loop_unfold]; simp [partL, wrN_at, rdN_at, set_at, w1, w2, w3, w4, List.append_assoc, back_scalar, Out.scalar, scalar, flat1, flat]
theorem Inverse0 {h : List O} {a b : Int} (hab : a = 0 ∧ b = 1 ∨ a = 1 ∧ b = 0) : DR E 215 [permV a b 2 3] ⟨h, h.length⟩ (.ret (permV a b 2 3)) ⟨h, h.length⟩ := by
 refine hE.fn (body := rb215) rfl ?_
 unfold rb215
 have h1 := fun h => valid0 hE (h := h) hab
 have h2 := fun h => inverse0 hE (h := h) hab
 simp only [permV] at h1 h2
 simp [permV, rdN_at0, wrN_at, set_at, rdN_at, List.append_assoc, DC_q h1, DC_q h2, joined_fl, back_scalar, Out.scalar, scalar, flat1, flat]
end Go.Proofs.Ytjlkndkedknocaa
namespace Go.Proofs.Ytjlkndkedknocaa
open Go Go.Ai
attribute [local instance] Classical.propDecidable
def begA (G : Dg) (a j : Nat) : Nat × Nat := if 4 * G.T a 0 + G.T a 1 < j then (G.T a 0, G.T a 1) else (0, 0)
def finA (G : Dg) (a j : Nat) : Nat × Nat := if 4 * G.T a 2 + G.T a 3 < j then (G.T a 2, G.T a 3) else (0, 0)
theorem beg_step {G : Dg} (hG : GoodG G) {a i q : Nat} (ha : a < 2 * G.n) (hi : i < G.n) (hq : q < 4) :
  (G.X i q ≠ a → begA G a (4 * i + q + 1) = begA G a (4 * i + q) ∧ finA G a (4 * i + q + 1) = finA G a (4 * i + q)) ∧
  (G.X i q = a → outB (G.s i) q = true → begA G a (4 * i + q + 1) = (i, q) ∧ finA G a (4 * i + q + 1) = finA G a (4 * i + q)) ∧
  (G.X i q = a → outB (G.s i) q = false → begA G a (4 * i + q + 1) = begA G a (4 * i + q) ∧ finA G a (4 * i + q + 1) = (i, q)) := by
 obtain ⟨t0, t1, t2, t3, x1, x2, hne⟩ := hG.T a ha
 obtain ⟨d1, d2⟩ := hG.dir a ha
 have eb : 4 * G.T a 0 + G.T a 1 = 4 * i + q → G.T a 0 = i ∧ G.T a 1 = q := fun e => by omega
 have ef : 4 * G.T a 2 + G.T a 3 = 4 * i + q → G.T a 2 = i ∧ G.T a 3 = q := fun e => by omega
 have nb : (G.T a 0 = i ∧ G.T a 1 = q → False) → begA G a (4 * i + q + 1) = begA G a (4 * i + q) := fun hn => by
  have : 4 * G.T a 0 + G.T a 1 ≠ 4 * i + q := fun e => hn (eb e)
  unfold begA
  by_cases h : 4 * G.T a 0 + G.T a 1 < 4 * i + q
  ·rw [if_pos h, if_pos (by omega)]
  ·rw [if_neg h, if_neg (by omega)]
 have nf : (G.T a 2 = i ∧ G.T a 3 = q → False) → finA G a (4 * i + q + 1) = finA G a (4 * i + q) := fun hn => by
  have : 4 * G.T a 2 + G.T a 3 ≠ 4 * i + q := fun e => hn (ef e)
  unfold finA
  by_cases h : 4 * G.T a 2 + G.T a 3 < 4 * i + q
  ·rw [if_pos h, if_pos (by omega)]
  ·rw [if_neg h, if_neg (by omega)]
 refine ⟨fun hx => ⟨nb fun h => hx (by rw [← h.1, ← h.2]; exact x1), nf fun h => hx (by rw [← h.1, ← h.2]; exact x2)⟩, fun hx ho => ?_, fun hx ho => ?_⟩
 ·have hc := hG.cover i q hi hq
  rw [hx] at hc
  rcases hc with ⟨h1, h2⟩ | ⟨h1, h2⟩
  ·refine ⟨?_, nf fun h => by rw [h.1, h.2, ho] at d2; cases d2⟩
   unfold begA
   rw [if_pos (by omega), ← h1, ← h2]
  ·rw [← h1, ← h2, ho] at d2; cases d2
 ·have hc := hG.cover i q hi hq
  rw [hx] at hc
  rcases hc with ⟨h1, h2⟩ | ⟨h1, h2⟩
  ·rw [← h1, ← h2, ho] at d1; cases d1
  ·refine ⟨nb fun h => (by rw [h.1, h.2, ho] at d1; cases d1), ?_⟩
   unfold finA
   rw [if_pos (by omega), ← h1, ← h2]
variable {E : Env} (hE : OE E)
include hE
theorem ends_ {h0 : List O} {a : Option Addr} {n c : Nat} {x : Nat → Nat → Int} {s : Nat → Int} {L : Int} (hx : CrossP h0 a n x s) (hS : Snd n x s L) {arc : Nat} (ha : arc < 2 * n) :
  DR E 161 [dV a n c L, .int .i64 arc] ⟨h0, h0.length⟩ (.ret (.tuple #[endV ((dgOf n x s L).T arc 0, (dgOf n x s L).T arc 1), endV ((dgOf n x s L).T arc 2, (dgOf n x s L).T arc 3)])) ⟨h0, h0.length⟩ := by
 refine hE.fn (body := rb161) rfl ?_
 unfold rb161
 have hG := good_of hS
 have hxe : ∀ i q, i < n → q < 4 → x i q = (dgOf n x s L).X i q := fun i q hi hq => sound_x hS hi hq
 obtain ⟨G, hGe⟩ : ∃ G, G = dgOf n x s L := ⟨_, rfl⟩
 have hGn : G.n = n := by rw [hGe]; rfl
 have hGs : G.s = s := by rw [hGe]; rfl
 rw [← hGe] at hG hxe ⊢
 have hsz := hG.size
 obtain ⟨xb, xo, hxa, hxr⟩ := hx
 obtain rfl := hxa (by omega)
 simp [dV, rd_at, rd_at0, List.append_assoc]
 refine DW_loop (fun kk fr st => ∃ (i : Nat) (h : List O), i + kk = n ∧ st = ⟨h, h0.length⟩ ∧ Sub h0 h ∧ AtB h (h0.length + 1) (.cells (cells2 (begA G arc (4 * i))) 184 (some 0)) ∧ AtB h (h0.length + 2) (.cells (cells2 (finA G arc (4 * i))) 184 (some 0)) ∧
  get fr 1 = .int .i64 arc ∧ get fr 4 = .pointer (some ⟨h0.length + 1, 0, none⟩) ∧ get fr 5 = .pointer (some ⟨h0.length + 2, 0, none⟩) ∧ get fr 11 = .slice (some ⟨xb, xo, none⟩) n c ∧ get fr 12 = .int .i64 n ∧ get fr 13 = .int .i64 i) ?_ (k := n) ?_
 ·rintro kk fr st ⟨i, h, hik, rfl, hsub, hb4, hb5, g1, g4, g5, g11, g12, g13⟩
  have h5 := hb5
  have h4 := hb4
  unfold AtB at h4 h5
  have l5 := (List.getElem?_eq_some_iff.1 h5).1
  by_cases hi : i < n
  ·have hcr := hsub.rdN (hxr i hi)
   rw [rdN_def] at hcr
   simp only [crossC] at hcr
   have hmin : min h0.length h.length = h0.length := by omega
   simp [g1, g4, g5, g11, g12, g13, hi, rdN_def, hcr, wrN_at0, set_at0, app_at0, hmin]
   obtain ⟨H, hH⟩ : ∃ H, H = h ++ [O.cells (crossC (x i) (s i)) 107 (some 0)] := ⟨_, rfl⟩
   have hH' := hH
   simp only [crossC] at hH'
   rw [← hH']
   have hHs : Sub h H := by rw [hH]; exact (Sub.refl _).app _
   have hHc : H[h.length]? = some (.cells (crossC (x i) (s i)) 107 (some 0)) := by rw [hH, app_at0]; rfl
   refine DW_loop (fun kk' fr st => ∃ (q : Nat) (h' : List O), q + kk' = 4 ∧ st = ⟨h', h0.length⟩ ∧ Sub h0 h' ∧ AtB h' h.length (.cells (crossC (x i) (s i)) 107 (some 0)) ∧ AtB h' (h0.length + 1) (.cells (cells2 (begA G arc (4 * i + q))) 184 (some 0)) ∧ AtB h' (h0.length + 2) (.cells (cells2 (finA G arc (4 * i + q))) 184 (some 0)) ∧
    get fr 1 = .int .i64 arc ∧ get fr 4 = .pointer (some ⟨h0.length + 1, 0, none⟩) ∧ get fr 5 = .pointer (some ⟨h0.length + 2, 0, none⟩) ∧ get fr 11 = .slice (some ⟨xb, xo, none⟩) n c ∧ get fr 12 = .int .i64 n ∧ get fr 13 = .int .i64 i ∧ get fr 6 = .int .i64 i ∧ get fr 7 = .pointer (some ⟨h.length, 0, none⟩) ∧
    get fr 19 = .agg #[.int .i64 (x i 0), .int .i64 (x i 1), .int .i64 (x i 2), .int .i64 (x i 3)] ∧ get fr 20 = .int .i64 q) ?_ (k := 4) ?_
   ·clear g1 g4 g5 g11 g12 g13
    rintro kk' fr st ⟨q, h', hqk, rfl, hs', hbc, hb4, hb5, g1, g4, g5, g11, g12, g13, g6, g7, g19, g20⟩
    have h5 := hb5
    have h4 := hb4
    have hc := hbc
    unfold AtB at h4 h5 hc
    have l5 := (List.getElem?_eq_some_iff.1 h5).1
    by_cases hq : q < 4
    ·have hq' : (q : Int) < 4 := by omega
     have hw : IntKind.i64.wrap ((q : Int) + 1) = (q : Int) + 1 := by rw [w64_id] <;> omega
     have hxq : [Value.int .i64 (x i 0), .int .i64 (x i 1), .int .i64 (x i 2), .int .i64 (x i 3)][q]? = some (.int .i64 (x i q)) := by
      match q, hq with
      | 0, _ => rfl
      | 1, _ => rfl
      | 2, _ => rfl
      | 3, _ => rfl
     obtain ⟨s1, s2, s3⟩ := beg_step hG (a := arc) (i := i) (q := q) (by omega) (by omega) hq
     have hsg := hG.sign i (by omega)
     rw [hGs] at hsg s2 s3
     have hxi := hxe i q hi hq
     have hcm := fun h => comesIn_ hE (h := h) (x := x i) (s := s i) hsg hq
     simp only [crossV] at hcm
     simp only [crossC] at hc
     have hmin1 : min h0.length (h0.length + 1) = h0.length := by omega
     have hmin2 : min h0.length (h0.length + 2) = h0.length := by omega
     by_cases he : G.X i q = arc
     ·cases ho : outB (s i) q
      ·obtain ⟨e1, e2⟩ := s3 he ho
       have hcm' := hcm h'
       rw [ho] at hcm'
       simp [g1, g4, g5, g11, g12, g13, g6, g7, g19, g20, hq', partL, hxq, hxi, he, rdN_def, hc, DC_q hcm, ho, hw, wrN_def, h5, cells2, hmin2]
       refine ⟨kk' - 1, by omega, q + 1, by omega, hs'.set (by omega) _, ?_, ?_, ?_, by omega⟩
       ·exact set_ne hbc (by omega)
       ·rw [← Nat.add_assoc, e1]; exact set_ne hb4 (by omega)
       ·rw [← Nat.add_assoc, e2]; exact set_self h5
      ·obtain ⟨e1, e2⟩ := s2 he ho
       simp [g1, g4, g5, g11, g12, g13, g6, g7, g19, g20, hq', partL, hxq, hxi, he, rdN_def, hc, DC_q hcm, ho, hw, wrN_def, h4, cells2, hmin1]
       refine ⟨kk' - 1, by omega, q + 1, by omega, hs'.set (by omega) _, ?_, ?_, ?_, by omega⟩
       ·exact set_ne hbc (by omega)
       ·rw [← Nat.add_assoc, e1]; exact set_self h4
       ·rw [← Nat.add_assoc, e2]; exact set_ne hb5 (by omega)
     ·obtain ⟨e1, e2⟩ := s1 he
      simp [g1, g4, g5, g11, g12, g13, g6, g7, g19, g20, hq', partL, hxq, hxi, he, rdN_def, hc, hw]
      refine ⟨kk' - 1, by omega, q + 1, by omega, hs', hbc, ?_, ?_, by omega⟩
      ·rw [← Nat.add_assoc, e1]; exact hb4
      ·rw [← Nat.add_assoc, e2]; exact hb5
    ·have hq4 : q = 4 := by omega
     subst hq4
     have hw : IntKind.i64.wrap ((i : Int) + 1) = (i : Int) + 1 := by rw [w64_id] <;> omega
     simp [g1, g4, g5, g11, g12, g13, g6, g7, g19, g20, hw]
     exact ⟨kk - 1, by omega, i + 1, by omega, hs', hb4, hb5, by omega⟩
   ·exact ⟨0, H, by omega, rfl, hsub.trans hHs, hHc, hHs _ _ h4, hHs _ _ h5, by simp [g1, g4, g5, g11, g12, g13]⟩
  ·have hin : i = n := by omega
   subst hin
   obtain ⟨t0, t1, t2, t3, _⟩ := hG.T arc (by omega)
   have eb : begA G arc (4 * i) = (G.T arc 0, G.T arc 1) := by unfold begA; rw [if_pos (by omega)]
   have ef : finA G arc (4 * i) = (G.T arc 2, G.T arc 3) := by unfold finA; rw [if_pos (by omega)]
   rw [eb] at h4
   rw [ef] at h5
   simp only [cells2] at h4 h5
   have l4 : h0.length + 1 < h.length := by omega
   have hn1 : ∀ o, (h.set (h0.length + 1) o)[h0.length + 2]? = h[h0.length + 2]? := fun o => List.getElem?_set_ne (by omega)
   have hn2 : ∀ o, (h.set (h0.length + 2) o)[h0.length + 1]? = h[h0.length + 1]? := fun o => List.getElem?_set_ne (by omega)
   have hs1 : h.set (h0.length + 1) (.cells [.int .i64 (G.T arc 0), .int .i64 (G.T arc 1)] 184 (some 0)) = h := set_same h4
   have hs2 : h.set (h0.length + 2) (.cells [.int .i64 (G.T arc 2), .int .i64 (G.T arc 3)] 184 (some 0)) = h := set_same h5
   have hmin1 : min h0.length (min (h0.length + 1) (h0.length + 2)) = h0.length := by omega
   simp [g1, g4, g5, g11, g12, g13, rdN_def, h4, h5, wrN_def, bit, hs1, hs2]
   simp [endV, back_scalar, Out.scalar, scalar, flat1, flat, hmin1, g4, g5, rdN_def, h4, h5]
 ·exact ⟨0, _, by omega, rfl, (Sub.refl h0).app _, by simp [AtB, app_at, begA, cells2], by simp [AtB, app_at, finA, cells2], by simp⟩
end Go.Proofs.Ytjlkndkedknocaa
namespace Go.Proofs.Ytjlkndkedknocaa
open Go Go.Ai
attribute [local instance] Classical.propDecidable
noncomputable def cornJ (j : Nat) : Nat × Nat → Option Value := fun x => if x.2 < 4 ∧ 4 * x.1 + x.2 < j then some (.int .i64 ((4 * x.1 + x.2 : Nat) : Int)) else none
theorem cornJ_next {i q : Nat} (hq : q < 4) : upS (cornJ (4 * i + q)) (i, q) (.int .i64 ((4 * i + q : Nat) : Int)) = cornJ (4 * i + q + 1) := by
 funext x
 obtain ⟨c, p⟩ := x
 simp only [upS, cornJ]
 by_cases e : (c, p) = (i, q)
 ·rw [if_pos e]
  have e1 := congrArg Prod.fst e
  have e2 := congrArg Prod.snd e
  simp only at e1 e2
  subst e1 e2
  rw [if_pos (by omega)]
 ·rw [if_neg e]
  have hne : p < 4 → 4 * c + p ≠ 4 * i + q := fun hp h => e (by rw [show c = i by omega, show p = q by omega])
  by_cases h : p < 4 ∧ 4 * c + p < 4 * i + q
  ·rw [if_pos h, if_pos (by omega)]
  ·rw [if_neg h, if_neg]
   rintro ⟨h1, h2⟩
   have := hne h1
   exact h ⟨h1, by omega⟩
structure Bld (h : List O) (p fb mb : Nat) (a : Option Addr) (n c : Nat) (L : Int) (cs : List Value) : Prop where
 p : h[p]? = some (.cells [.slice (some ⟨fb, 0, none⟩) (4 * n) (4 * n), .slice a n c, .int .i64 L, .map (some mb)] 182 (some 0))
 fb : h[fb]? = some (.cells cs 100 (some 20))
 mb : ∃ es clock, h[mb]? = some (.map es clock) ∧ MapIs kcII es (cornJ (4 * n))
theorem Bld.keep {h h' : List O} {p fb mb : Nat} {a : Option Addr} {n c : Nat} {L : Int} {cs : List Value} (k : Bld h p fb mb a n c L cs) (hk : ∀ (b : Nat) (o : O), b = p ∨ b = fb ∨ b = mb → h[b]? = some o → h'[b]? = some o) : Bld h' p fb mb a n c L cs := by
 obtain ⟨k1, k2, es, clock, k3, k4⟩ := k
 exact ⟨hk _ _ (.inl rfl) k1, hk _ _ (.inr (.inl rfl)) k2, es, clock, hk _ _ (.inr (.inr rfl)) k3, k4⟩
structure BldI (h0 h : List O) (p mb : Nat) (a : Option Addr) (n c : Nat) (L : Int) (j : Nat) : Prop where
 sub : Sub h0 h
 lp : h0.length ≤ p
 lm : h0.length ≤ mb
 at_ : ∃ v, h[p]? = some (.cells [v, .slice a n c, .int .i64 L, .map (some mb)] 182 (some 0)) ∧ OwnA h h0.length v j (List.replicate (20 * j) (.int .i64 0)) 100 20
 mb : ∃ es clock, h[mb]? = some (.map es clock) ∧ MapIs kcII es (cornJ j)
variable {E : Env} (hE : OE E)
include hE
theorem builderOf_ {h0 : List O} {a : Option Addr} {n c : Nat} {L : Int} (hn : 0 < n) (hsz : n ≤ 200) :
  DC E 85 [dV a n c L] ⟨h0, h0.length⟩ fun o st' => ∃ p fb mb, o = .ret (.pointer (some ⟨p, 0, none⟩)) ∧ h0.length ≤ st'.fl ∧ Sub h0 st'.h ∧ h0.length ≤ p ∧ h0.length ≤ fb ∧ h0.length ≤ mb ∧ Bld st'.h p fb mb a n c L (List.replicate (80 * n) (.int .i64 0)) := by
 refine hE.fnC (body := rb85) rfl ?_
 unfold rb85
 simp [dV, rdN_at0, rd_at, rd_at0, List.append_assoc]
 refine DW_loop (fun kk fr st => ∃ (i : Nat) (h : List O), i + kk = n ∧ st = ⟨h, h0.length⟩ ∧ BldI h0 h (h0.length + 2) (h0.length + 1) a n c L (4 * i) ∧ get fr 3 = .pointer (some ⟨h0.length + 2, 0, none⟩) ∧ get fr 12 = .int .i64 n ∧ get fr 13 = .int .i64 i) ?_ (k := n) ?_
 ·rintro kk fr st ⟨i, h, hik, rfl, hI, g3, g12, g13⟩
  by_cases hi : i < n
  ·simp [g3, g12, g13, hi]
   refine DW_loop (fun kk' fr st => ∃ (q : Nat) (h : List O), q + kk' = 4 ∧ st = ⟨h, h0.length⟩ ∧ BldI h0 h (h0.length + 2) (h0.length + 1) a n c L (4 * i + q) ∧ get fr 3 = .pointer (some ⟨h0.length + 2, 0, none⟩) ∧ get fr 12 = .int .i64 n ∧ get fr 13 = .int .i64 i ∧ get fr 4 = .int .i64 i ∧ get fr 16 = .int .i64 q) ?_ (k := 4) ?_
   ·clear g3 g12 g13 hI
    clear h
    rintro kk' fr st ⟨q, h, hqk, rfl, hI, g3, g12, g13, g4, g16⟩
    by_cases hq : q < 4
    ·have hq' : (q : Int) < 4 := by omega
     have hw : IntKind.i64.wrap ((q : Int) + 1) = (q : Int) + 1 := by rw [w64_id] <;> omega
     obtain ⟨v, hp, hv⟩ := hI.at_
     obtain ⟨es, clock, hm, hM⟩ := hI.mb
     have hsl := hI.sub.len
     have lp := (List.getElem?_eq_some_iff.1 hp).1
     obtain ⟨va, vn, vc, rfl, hvn⟩ : ∃ a n c, v = .slice a n c ∧ n = 4 * i + q := by
      rcases hv.2 with ⟨h1, h2⟩ | ⟨b, h1, _⟩
      ·exact ⟨_, _, _, h1, h2.symm⟩
      ·exact ⟨_, _, _, h1, rfl⟩
     subst hvn
     obtain ⟨es', clock', hupd, hM'⟩ := MapIs.upd keyII hM (f := h0.length) hm (i, q) (.int .i64 ((4 * i + q : Nat) : Int))
     rw [cornJ_next hq] at hM'
     have hupd' : updS [some .i64, some .i64] true ⟨h, h0.length⟩ (.map (some (h0.length + 1))) (.agg #[.int .i64 i, .int .i64 q]) (.int .i64 ((4 * i + q : Nat) : Int)) = _ := hupd
     have hmin : min h0.length (h0.length + 1) = h0.length := by omega
     obtain ⟨H, hH⟩ : ∃ H, H = h.set (h0.length + 1) (.map es' clock') := ⟨_, rfl⟩
     rw [← hH, hmin] at hupd'
     have hHp := set_ne (x := O.map es' clock') (a := h0.length + 1) hp (by omega)
     rw [← hH] at hHp
     have lH : H.length = h.length := by rw [hH]; exact List.length_set
     have hHm : H[h0.length + 1]? = some (.map es' clock') := by rw [hH]; exact set_self hm
     obtain ⟨z, hz⟩ : ∃ z, z = List.replicate 20 (Value.int .i64 0) := ⟨_, rfl⟩
     have hz2 : z = [.int .i64 0, .int .i64 0, .int .i64 0, .int .i64 0, .int .i64 0, .int .i64 0, .int .i64 0, .int .i64 0, .int .i64 0, .int .i64 0, .int .i64 0, .int .i64 0, .int .i64 0, .int .i64 0, .int .i64 0, .int .i64 0, .int .i64 0, .int .i64 0, .int .i64 0, .int .i64 0] := by rw [hz]; rfl
     have hv2 : OwnA (H ++ [.cells z 100 (some 0)]) h0.length (.slice va (4 * i + q) vc) (4 * i + q) (List.replicate (20 * (4 * i + q)) (.int .i64 0)) 100 20 := hv.keep fun b hb e => app_of (by
      rw [hH]; exact set_ne e (fun e' => by rw [e'] at e; rw [e] at hm; cases hm)) _
     have hread : readSlice (H ++ [.cells z 100 (some 0)]) 20 1 (some ⟨H.length, 0, none⟩) = some z := by simp [readSlice, rdN_at0, hz]
     obtain ⟨v', H4, f4, happ, hown, hf1, hf2, hL4, K4⟩ := append_A (fl := h0.length) (c := 1) (bytes := 160) hv2 hread (by rw [hz]; simp) (by rw [hz]; simp) (by simp [lH]; omega) (by simp only [roomMax]; omega) (by omega)
     obtain rfl : f4 = h0.length := by omega
     rw [hz2] at happ
     have hH4p := K4 _ _ (app_of hHp [.cells z 100 (some 0)]) (.inr fun c e => by cases e)
     have hmin2 : min h0.length (h0.length + 2) = h0.length := by omega
     have ht : binV .add (.int .i64 0) (.int .i64 0) = some (.int .i64 0) := rfl
     obtain ⟨va', vn', vc', rfl⟩ : ∃ a n c, v' = .slice a n c := by
      rcases hown.2 with ⟨h1, h2⟩ | ⟨b, h1, _⟩
      ·exact ⟨_, _, _, h1⟩
      ·exact ⟨_, _, _, h1⟩
     have hc4 : ((4 * i + q : Nat) : Int) = 4 * (i : Int) + q := by omega
     rw [hc4] at hupd'
     simp [g3, g12, g13, g4, g16, hq', rd_def, hp, hHp, step_updS, hupd', bit, hw, happ, wrN_def, hH4p, hmin2]
     refine ⟨kk' - 1, by omega, q + 1, by omega, ⟨fun b o hb => ?_, by omega, by omega, ⟨_, set_self hH4p, ?_⟩, es', clock', ?_, hM'⟩, by omega⟩
     ·have hb0 := (List.getElem?_eq_some_iff.1 hb).1
      refine set_ne (K4 b o (app_of ?_ _) (.inl hb0)) (by omega)
      rw [hH]
      exact set_ne (hI.sub b o hb) (by omega)
     ·have e20 : List.replicate (20 * (4 * i + q)) (Value.int .i64 0) ++ z = List.replicate (20 * (4 * i + (q + 1))) (.int .i64 0) := by
       rw [hz, List.replicate_append_replicate]; congr 1
      rw [e20] at hown
      exact hown.keep fun b hb e => set_ne e (fun e' => by rw [e'] at e; rw [hH4p] at e; cases e)
     ·exact set_ne (K4 _ _ (app_of hHm _) (.inr fun c e => by cases e)) (by omega)
    ·have hq4 : q = 4 := by omega
     subst hq4
     have hw : IntKind.i64.wrap ((i : Int) + 1) = (i : Int) + 1 := by rw [w64_id] <;> omega
     simp [g3, g12, g13, g4, g16, hw]
     exact ⟨kk - 1, by omega, i + 1, by omega, hI, by omega⟩
   ·exact ⟨0, h, by omega, rfl, hI, by simp [g3, g12, g13]⟩
  ·have hin : i = n := by omega
   subst hin
   simp [g3, g12, g13]
   unfold pairQ back
   rw [if_neg (by simp [Out.scalar, scalar, flat1, flat])]
   obtain ⟨v, hp, hv⟩ := hI.at_
   rcases hv.2 with ⟨h1, h2⟩ | ⟨b, h1, h2, h3⟩
   ·omega
   ·subst h1
    refine ⟨h0.length + 2, rfl, Nat.le_refl _, hI.sub, by omega, b, h2, h0.length + 1, by omega, hp, ?_, hI.mb⟩
    rw [show 80 * i = 20 * (4 * i) by omega]; exact h3
 ·refine ⟨0, _, by omega, rfl, ⟨(Sub.refl h0).app _, by omega, by omega, ⟨.slice none 0 0, by simp [app_at], OwnA.nil _ _ _ _⟩, [], 0, by simp [app_at], ?_⟩, by simp⟩
  have : cornJ (4 * 0) = fun _ => none := by funext x; simp [cornJ]
  rw [this]
  exact MapIs.nil
end Go.Proofs.Ytjlkndkedknocaa
namespace Go.Proofs.Ytjlkndkedknocaa
open Go Go.Ai
attribute [local instance] Classical.propDecidable
def outC (t f : Nat) : List Value := [.int .i64 t, .int .i64 f]
def outV (t f : Nat) : Value := .agg #[.int .i64 t, .int .i64 f]
def alT (G : Dg) (a : Nat) : Nat → Nat
 | 0 => 4 * G.T a 0 + G.T a 1
 | 1 => 4 * G.T a 2 + (G.T a 3 + 3) % 4
 | 2 => 4 * G.T a 0 + (G.T a 1 + 3) % 4
 | _ => 4 * G.T a 2 + G.T a 3
def alF (G : Dg) (a : Nat) : Nat → Nat
 | 0 => G.T a 1 % 2
 | 1 => G.T a 3 % 2
 | 2 => G.T a 1 % 2
 | _ => G.T a 3 % 2
theorem alT_lt {G : Dg} (hG : GoodG G) {a : Nat} (ha : a < 2 * G.n) (k : Nat) : alT G a k < 4 * G.n ∧ alF G a k < 4 := by
 obtain ⟨t0, t1, t2, t3, _⟩ := hG.T a ha
 match k with
 | 0 => constructor <;> simp only [alT, alF] <;> omega
 | 1 => constructor <;> simp only [alT, alF] <;> omega
 | 2 => constructor <;> simp only [alT, alF] <;> omega
 | k + 3 => constructor <;> simp only [alT, alF] <;> omega
def alongC (G : Dg) (a : Nat) : List Value := outC (alT G a 0) (alF G a 0) ++ outC (alT G a 1) (alF G a 1) ++ outC (alT G a 2) (alF G a 2) ++ outC (alT G a 3) (alF G a 3)
def fcC : Option (Nat × Bool) → List Value
 | none => [.int .i64 0, .int .i64 0, .int .i64 0, .int .i64 0, .int .i64 0]
 | some (t, sw) => [.int .i64 t, .int .i64 (if sw then 1 else 0), .int .i64 (if sw then 0 else 1), .int .i64 2, .int .i64 3]
theorem fcC_len (x : Option (Nat × Bool)) : (fcC x).length = 5 := by rcases x with _ | ⟨t, sw⟩ <;> rfl
def FacesC (cs : List Value) (N : Nat) (F : Nat → Nat → Option (Nat × Bool)) : Prop := cs.length = 20 * N ∧ ∀ t f, t < N → f < 4 → ∀ j, j < 5 → cs[t * 20 + f * 5 + j]? = (fcC (F t f))[j]?
def updF (F : Nat → Nat → Option (Nat × Bool)) (t f : Nat) (x : Option (Nat × Bool)) : Nat → Nat → Option (Nat × Bool) := fun t' f' => if t' = t ∧ f' = f then x else F t' f'
theorem FacesC.zero (N : Nat) : FacesC (List.replicate (20 * N) (.int .i64 0)) N fun _ _ => none := by
 refine ⟨by simp, fun t f ht hf j hj => ?_⟩
 rw [List.getElem?_replicate, if_pos (by omega)]
 match j, hj with
 | 0, _ => rfl
 | 1, _ => rfl
 | 2, _ => rfl
 | 3, _ => rfl
 | 4, _ => rfl
theorem setL_len (vs : List Value) : ∀ (c : List Value) (off : Nat), (setL c off vs).length = c.length := by
 induction vs with
 | nil => intro c off; rfl
 | cons v vs ih => intro c off; rw [show setL c off (v :: vs) = setL (c.set off v) (off + 1) vs from rfl, ih]; simp
theorem FacesC.set {cs : List Value} {N : Nat} {F : Nat → Nat → Option (Nat × Bool)} (h : FacesC cs N F) {t f : Nat} (ht : t < N) (hf : f < 4) (x : Option (Nat × Bool)) : FacesC (setL cs (t * 20 + f * 5) (fcC x)) N (updF F t f x) := by
 refine ⟨by rw [setL_len]; exact h.1, fun t' f' ht' hf' j hj => ?_⟩
 have hl := h.1
 rw [setL_get _ _ _ _ (by rw [fcC_len]; omega), fcC_len]
 unfold updF
 by_cases e : t' = t ∧ f' = f
 ·obtain ⟨rfl, rfl⟩ := e
  rw [if_pos (by omega), if_pos ⟨rfl, rfl⟩, Nat.add_sub_cancel_left]
 ·rw [if_neg (by omega), if_neg e]
  exact h.2 t' f' ht' hf' j hj
variable {E : Env} (hE : OE E)
include hE
theorem face_ {h : List O} {p fb mb n c : Nat} {a : Option Addr} {L : Int} {cs : List Value} (hb : Bld h p fb mb a n c L cs) {x : Nat × Nat} (h1 : x.1 < n) (h2 : x.2 < 4) {pl : Nat} :
  DR E 162 [.pointer (some ⟨p, 0, none⟩), endV x, .int .i64 pl] ⟨h, h.length⟩ (.ret (outV (4 * x.1 + x.2) (pl % 2))) ⟨h, h.length⟩ := by
 refine hE.fn (body := rb162) rfl ?_
 unfold rb162
 obtain ⟨k1, k2, es, clock, k3, k4⟩ := hb
 have e1 : ∀ l, (h ++ l)[p]? = _ := fun l => app_of k1 l
 have e2 : ∀ l, (h ++ l)[mb]? = _ := fun l => app_of k3 l
 have hl := MapIs.look keyII k4 (st := ⟨h ++ [.cells [.int .i64 x.1, .int .i64 x.2] 184 (some 0), .cells [.int .i64 0, .int .i64 0] 42 (some 0)], h.length⟩) (e2 _) x (.int .i64 0) false
 have hS : cornJ (4 * n) x = some (.int .i64 ((4 * x.1 + x.2 : Nat) : Int)) := by unfold cornJ; rw [if_pos ⟨h2, by omega⟩]
 rw [hS] at hl
 simp [kcII] at hl
 have hc4 : ((4 * x.1 + x.2 : Nat) : Int) = 4 * (x.1 : Int) + x.2 := by omega
 have hm : ((pl : Nat) : Int).tmod 2 = ((pl % 2 : Nat) : Int) := tmod_nat pl 2
 have hpn : p ≠ h.length + 1 := by have := (List.getElem?_eq_some_iff.1 k1).1; omega
 have hmn : mb ≠ h.length + 1 := by have := (List.getElem?_eq_some_iff.1 k3).1; omega
 have hpn0 : p ≠ h.length := by have := (List.getElem?_eq_some_iff.1 k1).1; omega
 have hmn0 : mb ≠ h.length := by have := (List.getElem?_eq_some_iff.1 k3).1; omega
 simp [endV, outV, List.append_assoc, rd_def, e1, rdN_at0, rdN_at, step_lookS, hl, hm, wrN_at, set_at, bit, back_scalar, Out.scalar, scalar, flat1, flat, hpn, hmn, hpn.symm, hmn.symm, hpn0, hmn0, hpn0.symm, hmn0.symm]
theorem along_ {h : List O} {p fb mb n c : Nat} {a : Option Addr} {L : Int} {cs : List Value} {x : Nat → Nat → Int} {s : Nat → Int} (hb : Bld h p fb mb a n c L cs) (hx : CrossP h a n x s) (hS : Snd n x s L) {arc : Nat} (ha : arc < 2 * n) :
  DR E 91 [.pointer (some ⟨p, 0, none⟩), .int .i64 arc] ⟨h, h.length⟩ (.ret (.agg (alongC (dgOf n x s L) arc).toArray)) ⟨h, h.length⟩ := by
 refine hE.fn (body := rb91) rfl ?_
 unfold rb91
 have hG := good_of hS
 have he := ends_ hE (c := c) (L := L) (hx.ext (Ext.snoc h [O.cells [.int .i64 0, .int .i64 0, .int .i64 0, .int .i64 0, .int .i64 0, .int .i64 0, .int .i64 0, .int .i64 0] 112 (some 0)])) hS ha
 obtain ⟨G, hGe⟩ : ∃ G, G = dgOf n x s L := ⟨_, rfl⟩
 have hGn : G.n = n := by rw [hGe]; rfl
 rw [← hGe] at hG he ⊢
 obtain ⟨t0, t1, t2, t3, _⟩ := hG.T arc (by omega)
 rw [hGn] at t0 t2
 have k1 := hb.p
 have e1 : ∀ l, (h ++ l)[p]? = _ := fun l => app_of k1 l
 obtain ⟨lz, hlz⟩ : ∃ l, l = [O.cells [.int .i64 0, .int .i64 0, .int .i64 0, .int .i64 0, .int .i64 0, .int .i64 0, .int .i64 0, .int .i64 0] 112 (some 0), O.cells (cells2 (G.T arc 0, G.T arc 1)) 184 (some 0), O.cells (cells2 (G.T arc 2, G.T arc 3)) 184 (some 0)] := ⟨_, rfl⟩
 have hb2 : Bld (h ++ lz) p fb mb a n c L cs := hb.keep fun b o _ e => app_of e _
 have f0 := face_ hE hb2 (x := (G.T arc 0, G.T arc 1)) t0 t1 (pl := G.T arc 1)
 have f1 := face_ hE hb2 (x := (G.T arc 2, (G.T arc 3 + 3) % 4)) t2 (Nat.mod_lt _ (by omega)) (pl := G.T arc 3)
 have f2 := face_ hE hb2 (x := (G.T arc 0, (G.T arc 1 + 3) % 4)) t0 (Nat.mod_lt _ (by omega)) (pl := G.T arc 1)
 have f3 := face_ hE hb2 (x := (G.T arc 2, G.T arc 3)) t2 t3 (pl := G.T arc 3)
 have u1 := fun h => turned_ hE (h := h) (c := G.T arc 2) (p := G.T arc 3) (e := G.T arc 3 + 3) (d := -1) (by omega) (by omega) t3
 have u2 := fun h => turned_ hE (h := h) (c := G.T arc 0) (p := G.T arc 1) (e := G.T arc 1 + 3) (d := -1) (by omega) (by omega) t1
 simp [hlz, endV, cells2, outV] at f0 f1 f2 f3
 simp only [endV] at u1 u2
 simp [dV, endV] at he
 have hpn0 : p ≠ h.length := by have := (List.getElem?_eq_some_iff.1 k1).1; omega
 simp [rdN_def, e1, DC_of he, wrN_at, set_at, List.append_assoc, joined_fl, app_at, app_at0, DC_of f0, DC_of f1, DC_of f2, DC_of f3, DC_q u1, DC_q u2, rd_def, hpn0, hpn0.symm, wrN_at0, set_at0, bit, back_scalar, Out.scalar, scalar, flat1, flat, alongC, outC, alT, alF]
omit hE in
def joinF (F : Nat → Nat → Option (Nat × Bool)) (ta fa tb fb : Nat) (sw : Bool) : Nat → Nat → Option (Nat × Bool) := updF (updF F ta fa (some (tb, sw))) tb fb (some (ta, sw))
omit hE in
def swV (sw : Bool) : Value := permV (if sw then 1 else 0) (if sw then 0 else 1) 2 3
theorem join_ {h : List O} {p fb N cN : Nat} {rest : List Value} {el : TypeId} {own : Option Nat} {cs : List Value} {F : Nat → Nat → Option (Nat × Bool)} (hp : h[p]? = some (.cells (.slice (some ⟨fb, 0, none⟩) N cN :: rest) el own)) (hfb : h[fb]? = some (.cells cs 100 (some 20)))
  (hF : FacesC cs N F) {ta fa tb fc : Nat} (h1 : ta < N) (h2 : fa < 4) (h3 : tb < N) (h4 : fc < 4) (sw : Bool) (hne : p ≠ fb) :
  DC E 155 [.pointer (some ⟨p, 0, none⟩), outV ta fa, outV tb fc, swV sw] ⟨h, h.length⟩ fun o st' => o = .ret (.tuple #[]) ∧ st'.fl = fb ∧ h.length ≤ st'.h.length ∧ (∀ (b : Nat) (o : O), h[b]? = some o → b ≠ fb → st'.h[b]? = some o) ∧
   ∃ cs', AtB st'.h fb (.cells cs' 100 (some 20)) ∧ FacesC cs' N (joinF F ta fa tb fc sw) := by
 have hF1 := hF.set h1 h2 (some (tb, sw))
 have hF2 := hF1.set h3 h4 (some (ta, sw))
 have lf := (List.getElem?_eq_some_iff.1 hfb).1
 have lp := (List.getElem?_eq_some_iff.1 hp).1
 have e1 : ∀ l, (h ++ l)[p]? = _ := fun l => app_of hp l
 have e2 : ∀ l, (h ++ l)[fb]? = _ := fun l => app_of hfb l
 have hl0 := hF.1
 have b1 : ta * 20 + fa * 5 + 5 ≤ cs.length := by omega
 have b2 : tb * 20 + fc * 5 + 5 ≤ cs.length := by omega
 have b3 : ta * 20 + fa * 5 + 5 ≤ 20 * N := by omega
 have b4 : tb * 20 + fc * 5 + 5 ≤ 20 * N := by omega
 have i1 : (ta : Int) < N := by omega
 have i2 : (tb : Int) < N := by omega
 have i3 : (fa : Int) < 4 := by omega
 have i4 : (fc : Int) < 4 := by omega
 have hinv := fun h => Inverse0 hE (h := h) (a := if sw then 1 else 0) (b := if sw then 0 else 1) (by cases sw <;> simp)
 have hmin : min h.length fb = fb := by omega
 have hnp : ∀ l o, ((h ++ l).set fb o)[p]? = (h ++ l)[p]? := fun l o => List.getElem?_set_ne (Ne.symm hne)
 have hns : ∀ l o, ((h ++ l).set fb o)[fb]? = some o := fun l o => List.getElem?_set_self (by simp; omega)
 have hfn : ∀ k, fb ≠ h.length + k := fun k => by omega
 have hpn : ∀ k, p ≠ h.length + k := fun k => by omega
 have hfn0 : fb ≠ h.length := by omega
 have hpn0 : p ≠ h.length := by omega
 have ha0 : ∀ l o, ((h ++ l).set fb o)[h.length]? = l[0]? := fun l o => by rw [List.getElem?_set_ne (by omega), app_at0]
 have ha1 : ∀ l o k, ((h ++ l).set fb o)[h.length + k]? = l[k]? := fun l o k => by rw [List.getElem?_set_ne (by omega), app_at]
 simp only [permV] at hinv
 have key : DC E 155 [.pointer (some ⟨p, 0, none⟩), outV ta fa, outV tb fc, swV sw] ⟨h, h.length⟩ fun o st' => o = .ret (.tuple #[]) ∧ ∃ l, st' = ⟨(h ++ l).set fb (.cells (setL (setL cs (ta * 20 + fa * 5) (fcC (some (tb, sw)))) (tb * 20 + fc * 5) (fcC (some (ta, sw)))) 100 (some 20)), fb⟩ := by
  refine hE.fnC (body := rb155) rfl ?_
  unfold rb155
  simp [outV, swV, permV, List.append_assoc, rd_def, rdN_def, e1, e2, app_at, app_at0, wrN_def, i1, i2, i3, i4, hl0, b1, b2, b3, b4, hmin, hnp, hns, DC_q hinv, bit, ha0, ha1, setL_len, hfn, hpn, hfn0, hpn0, joined_fl]
  unfold pairQ back
  rw [if_neg (by simp; intro _; omega)]
  exact ⟨rfl, [_, _, _], rfl⟩
 refine key.imp ?_
 rintro o st' ⟨rfl, l, rfl⟩
 refine ⟨rfl, rfl, by simp, fun b o hb hn => set_ne (app_of hb l) hn, _, set_self (e2 l), ?_⟩
 exact hF2
end Go.Proofs.Ytjlkndkedknocaa
namespace Go.Proofs.Ytjlkndkedknocaa
open Go Go.Ai
attribute [local instance] Classical.propDecidable
variable {E : Env} (hE : OE E)
include hE
theorem round86 {h : List O} {f k p fb pb N cN : Nat} {rest : List Value} {el : TypeId} {own : Option Nat} {cs : List Value} {F : Nat → Nat → Option (Nat × Bool)} {frL : Fr}
  (hk : h[k]? = some (.loop false 77 frL [56, 57] (lcA 86 0) (lcB 86 0))) (g1 : get frL 1 = .pointer (some ⟨pb, 0, none⟩)) (hpb : h[pb]? = some (.cells [.pointer (some ⟨p, 0, none⟩)] 102 (some 0)))
  (hp : h[p]? = some (.cells (.slice (some ⟨fb, 0, none⟩) N cN :: rest) el own)) (hfb : h[fb]? = some (.cells cs 100 (some 20)))
  (hF : FacesC cs N F) {ta fa tb fc : Nat} (h1 : ta < N) (h2 : fa < 4) (h3 : tb < N) (h4 : fc < 4) (hne : p ≠ fb) (hne2 : pb ≠ fb) :
  DC E (yB + k) [outV ta fa, outV tb fc] ⟨h, h.length⟩ fun o st' => o = .ret (.bool true) ∧ ∃ h' cs', joined ⟨h, f⟩ st' = ⟨h', min f (min fb k)⟩ ∧ h.length ≤ h'.length ∧ (∀ (b : Nat) (o : O), h[b]? = some o → b ≠ fb → h'[b]? = some o) ∧
   AtB h' fb (.cells cs' 100 (some 20)) ∧ FacesC cs' N (joinF F ta fa tb fc (!decide (fa = fc))) := by
 have n1 : k ≠ fb := fun e => by subst e; rw [hk] at hfb; cases hfb
 have n2 : k ≠ p := fun e => by subst e; rw [hk] at hp; cases hp
 have n3 : k ≠ pb := fun e => by subst e; rw [hk] at hpb; cases hpb
 have lk := (List.getElem?_eq_some_iff.1 hk).1
 have lfb := (List.getElem?_eq_some_iff.1 hfb).1
 have lp := (List.getElem?_eq_some_iff.1 hp).1
 have lpb := (List.getElem?_eq_some_iff.1 hpb).1
 refine DC_yield (hE.Y k) hk rfl hE.c86_0a hE.c86_0b ?_
 unfold ra86_0
 simp [putAll, outV, wrN_at0, set_at0, List.append_assoc, wrN_at, set_at]
 obtain ⟨H0, hH0⟩ : ∃ H, H = h ++ [O.cells (outC ta fa) 42 (some 0), O.cells (outC tb fc) 42 (some 0)] := ⟨_, rfl⟩
 have k0 : H0[k]? = some (.loop false 77 frL [56, 57] (lcA 86 0) (lcB 86 0)) := by rw [hH0]; exact app_of hk _
 have hH0' := hH0
 simp only [outC] at hH0
 rw [← hH0]
 refine ⟨_, turn_eq k0, ?_⟩
 obtain ⟨H1, hH1⟩ : ∃ H, H = H0.set k (O.loop (!false) 77 frL [56, 57] (lcA 86 0) (lcB 86 0)) := ⟨_, rfl⟩
 have K1 : ∀ (b : Nat) (o : O), h[b]? = some o → b ≠ k → H1[b]? = some o := fun b o hb hn => by rw [hH1]; exact set_ne (by rw [hH0]; exact app_of hb _) hn
 have L1 : H1.length = h.length + 2 := by rw [hH1, hH0]; simp
 have a7 : H1[h.length]? = some (.cells (outC ta fa) 42 (some 0)) := by rw [hH1]; exact set_ne (by rw [hH0', app_at0]; rfl) (by omega)
 have a8 : H1[h.length + 1]? = some (.cells (outC tb fc) 42 (some 0)) := by rw [hH1]; exact set_ne (by rw [hH0', app_at]; rfl) (by omega)
 have kk1 : H1[k]? = some (.loop true 77 frL [56, 57] (lcA 86 0) (lcB 86 0)) := by rw [hH1]; exact set_self k0
 rw [← hH1]
 have p1 := K1 _ _ hpb (Ne.symm n3)
 have q1 := K1 _ _ hp (Ne.symm n2)
 have r1 := K1 _ _ hfb (Ne.symm n1)
 obtain ⟨sw, hsw⟩ : ∃ sw, sw = !decide (fa = fc) := ⟨_, rfl⟩
 obtain ⟨H2, hH2⟩ : ∃ H, H = H1 ++ [O.cells [.int .i64 (if sw then 1 else 0), .int .i64 (if sw then 0 else 1), .int .i64 2, .int .i64 3] 96 (some 0)] := ⟨_, rfl⟩
 have K2 : ∀ (b : Nat) (o : O), H1[b]? = some o → H2[b]? = some o := fun b o hb => by rw [hH2]; exact app_of hb _
 have L2 : H2.length = h.length + 3 := by rw [hH2]; simp [L1]
 have hj := join_ hE (K2 _ _ q1) (K2 _ _ r1) hF h1 h2 h3 h4 sw hne
 have a72 := K2 _ _ a7
 have a82 := K2 _ _ a8
 have p2 := K2 _ _ p1
 have a9 : H2[H1.length]? = some (O.cells [.int .i64 (if sw then 1 else 0), .int .i64 (if sw then 0 else 1), .int .i64 2, .int .i64 3] 96 (some 0)) := by rw [hH2, app_at0]; rfl
 have fin : ∀ st' : St, st'.fl = fb → H2.length ≤ st'.h.length → (∀ (b : Nat) (o : O), H2[b]? = some o → b ≠ fb → st'.h[b]? = some o) → (∃ cs', AtB st'.h fb (.cells cs' 100 (some 20)) ∧ FacesC cs' N (joinF F ta fa tb fc sw)) →
   ∃ st4, turn true k (joined ⟨H2, min h.length k⟩ st') = some st4 ∧ ∃ h', joined ⟨h, f⟩ st4 = ⟨h', min f (min fb k)⟩ ∧ h.length ≤ h'.length ∧ (∀ (b : Nat) (o : O), h[b]? = some o → ¬ b = fb → h'[b]? = some o) ∧
    ∃ cs', AtB h' fb (.cells cs' 100 (some 20)) ∧ FacesC cs' N (joinF F ta fa tb fc sw) := by
  rintro ⟨h3, f3⟩ hfl hlen hkeep ⟨cs', hat, hFC⟩
  simp only at hfl hlen hkeep hat
  have hlow : f3 < H2.length := by omega
  have e1 : joined ⟨H2, min h.length k⟩ ⟨h3, f3⟩ = ⟨h3, min (min h.length k) fb⟩ := by simp only [joined]; rw [if_pos hlow, hfl]
  have kk3 := hkeep _ _ (K2 _ _ kk1) n1
  rw [e1]
  refine ⟨_, turn_eq kk3, ?_⟩
  refine ⟨h3.set k (.loop (!true) 77 frL [56, 57] (lcA 86 0) (lcB 86 0)), ?_, by simp; omega, fun b o hb hn => ?_, cs', set_ne hat (Ne.symm n1), hFC⟩
  ·simp only [joined]
   rw [if_pos (by omega)]
   congr 1
   omega
  ·by_cases hbk : b = k
   ·subst hbk
    rw [hk] at hb
    obtain rfl := Option.some.inj hb
    exact set_self kk3
   ·exact set_ne (hkeep _ _ (K2 _ _ (K1 _ _ hb hbk)) hn) hbk
 rw [← hsw]
 simp only [outC] at a7 a8 a72 a82
 have hmin : min (min h.length k) H1.length = min h.length k := by omega
 simp only [outV, swV, permV] at hj
 unfold rl86_0
 by_cases he : fa = fc
 ·have hs0 : sw = false := by rw [hsw]; simp [he]
  subst hs0
  simp at hH2 hj a9
  subst he
  simp [g1, rd_def, rdN_def, wrN_at0, set_at0, a7, a8, a72, a82, p2, a9, hmin, ← hH2]
  refine hj.imp ?_
  rintro o st' ⟨rfl, j1, j2, j3, j4⟩
  simp [bit]
  exact fin st' j1 j2 j3 j4
 ·have hs1 : sw = true := by rw [hsw]; simp [he]
  subst hs1
  simp at hH2 hj a9
  have a7' : ∀ l, (H1 ++ l)[h.length]? = _ := fun l => app_of a7 l
  have a8' : ∀ l, (H1 ++ l)[h.length + 1]? = _ := fun l => app_of a8 l
  have a70 : ∀ l, (H1 ++ l)[pb]? = _ := fun l => app_of p1 l
  simp [g1, rd_def, rdN_def, wrN_at0, set_at0, app_at0, a7', a8', a70, a72, a82, p2, a9, he, hmin, ← hH2, List.append_assoc]
  refine hj.imp ?_
  rintro o st' ⟨rfl, j1, j2, j3, j4⟩
  simp [bit]
  exact fin st' j1 j2 j3 j4
end Go.Proofs.Ytjlkndkedknocaa
namespace Go.Proofs.Ytjlkndkedknocaa
open Go Go.Ai
attribute [local instance] Classical.propDecidable
def glC : Nat → Nat → Nat → Option (Nat × Bool)
 | 0 => fun _ _ => none
 | j + 1 => joinF (glC j) j (3 - (j % 4 + 1) % 4 % 2) (4 * (j / 4) + (j % 4 + 1) % 4) (3 - (j % 4 + 1) % 4 % 2) false
def glJ (G : Dg) (a k : Nat) (F : Nat → Nat → Option (Nat × Bool)) : Nat → Nat → Option (Nat × Bool) := joinF F (alT G a k) (alF G a k) (alT G a (k + 1)) (alF G a (k + 1)) (!decide (alF G a k = alF G a (k + 1)))
def glA (G : Dg) : Nat → Nat → Nat → Option (Nat × Bool)
 | 0 => glC (4 * G.n)
 | a + 1 => glJ G a 2 (glJ G a 0 (glA G a))
def outF (G : Dg) : Nat → Nat → Option (Nat × Bool) := glA G (2 * G.n)
variable {E : Env} (hE : OE E)
include hE
theorem pairs216 {h00 hK : List O} {k p fb mb pb pb2 n c : Nat} {a : Option Addr} {L : Int} {csK : List Value} {x : Nat → Nat → Int} {s : Nat → Int} {frL : Fr} (hx : CrossP h00 a n x s) (hS : Snd n x s L) (hn : 0 < n) (hs0 : Sub h00 hK) (hfb0 : h00.length ≤ fb)
  (hk : hK[k]? = some (.loop false 77 frL [56, 57] (lcA 86 0) (lcB 86 0))) (g1 : get frL 1 = .pointer (some ⟨pb, 0, none⟩)) (hpb : hK[pb]? = some (.cells [.pointer (some ⟨p, 0, none⟩)] 102 (some 0)))
  (hpb2 : hK[pb2]? = some (.cells [.pointer (some ⟨p, 0, none⟩)] 102 (some 0))) (hb : Bld hK p fb mb a n c L csK) (hF : FacesC csK (4 * n) (glC (4 * n))) :
  DC E 216 [tok k, .pointer (some ⟨pb2, 0, none⟩)] ⟨hK, hK.length⟩ fun o st' => o = .ret (.tuple #[]) ∧ st'.fl = min fb k ∧ hK.length ≤ st'.h.length ∧ (∀ (b : Nat) (o : O), hK[b]? = some o → b ≠ fb → st'.h[b]? = some o) ∧
   ∃ cs', AtB st'.h fb (.cells cs' 100 (some 20)) ∧ FacesC cs' (4 * n) (outF (dgOf n x s L)) := by
 refine hE.fnC (body := rb216) rfl ?_
 unfold rb216
 have hG := good_of hS
 obtain ⟨G, hGe⟩ : ∃ G, G = dgOf n x s L := ⟨_, rfl⟩
 have hGn : G.n = n := by rw [hGe]; rfl
 rw [← hGe] at hG ⊢
 have hsz := hG.size
 have k1 := hb.p
 have lk := (List.getElem?_eq_some_iff.1 hk).1
 have lfb := (List.getElem?_eq_some_iff.1 hb.fb).1
 have npf : p ≠ fb := fun e => by have := hb.fb; rw [← e, k1] at this; simp at this
 have nmf : mb ≠ fb := fun e => by obtain ⟨es, cl, h1, _⟩ := hb.mb; have := hb.fb; rw [← e, h1] at this; cases this
 have nbf : pb ≠ fb := fun e => by have := hb.fb; rw [← e, hpb] at this; simp at this
 have nbf2 : pb2 ≠ fb := fun e => by have := hb.fb; rw [← e, hpb2] at this; simp at this
 have nkf : k ≠ fb := fun e => by have := hb.fb; rw [← e, hk] at this; cases this
 have hw2n : IntKind.i64.wrap (2 * (n : Int)) = 2 * n := by rw [w64_id] <;> omega
 simp [rd_def, hpb2, k1, hw2n, tok]
 refine DW_loop (fun kk fr st => ∃ (i : Nat) (h : List O) (f : Nat) (cs : List Value), i + kk = 2 * n ∧ st = ⟨h, f⟩ ∧ min fb k ≤ f ∧ (0 < i → f = min fb k) ∧ hK.length ≤ h.length ∧ (∀ (b : Nat) (o : O), hK[b]? = some o → b ≠ fb → h[b]? = some o) ∧ AtB h fb (.cells cs 100 (some 20)) ∧ FacesC cs (4 * n) (glA G i) ∧
  get fr 0 = tok k ∧ get fr 1 = .pointer (some ⟨pb2, 0, none⟩) ∧ get fr 11 = .int .i64 (2 * n) ∧ get fr 12 = .int .i64 i) ?_ (k := 2 * n) ?_
 ·rintro kk fr st ⟨i, h, f, cs, hik, rfl, hf1, hf2, hlen, hkeep, hatB, hFC, g0, g1', g11, g12⟩
  have hat := hatB
  unfold AtB at hat
  by_cases hi : i < 2 * n
  ·have hi' : (i : Int) < 2 * n := by omega
   have hw : IntKind.i64.wrap ((i : Int) + 1) = (i : Int) + 1 := by rw [w64_id] <;> omega
   have hbh : Bld h p fb mb a n c L cs := by
    obtain ⟨es, cl, m1, m2⟩ := hb.mb
    exact ⟨hkeep _ _ k1 npf, hat, es, cl, hkeep _ _ m1 nmf, m2⟩
   have hs0h : Sub h00 h := fun b o hb' => hkeep _ _ (hs0 b o hb') (by have := (List.getElem?_eq_some_iff.1 hb').1; omega)
   have hA := along_ hE hbh (hx.sub hs0h) hS (arc := i) (by omega)
   rw [← hGe] at hA
   have hpbh := hkeep _ _ hpb nbf
   have hpbh2 := hkeep _ _ hpb2 nbf2
   have lpb := (List.getElem?_eq_some_iff.1 hpbh).1
   obtain ⟨H, hH⟩ : ∃ H, H = h ++ [O.cells (alongC G i) 112 (some 0)] := ⟨_, rfl⟩
   have hHs : Sub h H := by rw [hH]; exact (Sub.refl _).app _
   have hHa : H[h.length]? = some (.cells (alongC G i) 112 (some 0)) := by rw [hH, app_at0]; rfl
   obtain ⟨q0, q0'⟩ := alT_lt hG (a := i) (by omega) 0
   obtain ⟨q1, q1'⟩ := alT_lt hG (a := i) (by omega) 1
   obtain ⟨q2, q2'⟩ := alT_lt hG (a := i) (by omega) 2
   obtain ⟨q3, q3'⟩ := alT_lt hG (a := i) (by omega) 3
   rw [hGn] at q0 q1 q2 q3
   have hkh := hkeep _ _ hk nkf
   have r1 := round86 hE (f := min f h.length) (hHs _ _ hkh) g1 (hHs _ _ hpbh) (hHs _ _ hbh.p) (hHs _ _ hat) hFC q0 q0' q1 q1' npf nbf
   have hone : ∀ z, (alongC G i).all z = ([Value.int .i64 (alT G i 0), .int .i64 (alF G i 0), .int .i64 (alT G i 1), .int .i64 (alF G i 1), .int .i64 (alT G i 2), .int .i64 (alF G i 2), .int .i64 (alT G i 3), .int .i64 (alF G i 3)] : List Value).all z := fun z => rfl
   have hac : alongC G i = [Value.int .i64 (alT G i 0), .int .i64 (alF G i 0), .int .i64 (alT G i 1), .int .i64 (alF G i 1), .int .i64 (alT G i 2), .int .i64 (alF G i 2), .int .i64 (alT G i 3), .int .i64 (alF G i 3)] := rfl
   rw [hac] at hA hH hHa
   simp only [tok] at g0
   have hpn : pb ≠ h.length := by omega
   simp [g0, g1', g11, g12, hi', rd_def, hpbh2, DC_of hA, wrN_at0, set_at0, ← hH, rdN_def, hHa]
   simp only [outV] at r1
   refine r1.imp ?_
   rintro o st' ⟨rfl, h1, cs1, hj, l1, keep1, hat1, hF1⟩
   simp only [callK_ret, hj]
   have hmm : min (min f h.length) (min fb k) = min fb k := by omega
   rw [hmm]
   have nhf : h.length ≠ fb := by omega
   have hHa1 := keep1 _ _ hHa nhf
   have r2 := round86 hE (f := min fb k) (keep1 _ _ (hHs _ _ hkh) nkf) g1 (keep1 _ _ (hHs _ _ hpbh) nbf) (keep1 _ _ (hHs _ _ hbh.p) npf) hat1 hF1 q2 q2' q3 q3' npf nbf
   simp only [outV] at r2
   simp [g0, g1', g11, g12, rdN_def, hHa1]
   refine r2.imp ?_
   rintro o st' ⟨rfl, h2, cs2, hj2, l2, keep2, hat2, hF2⟩
   simp only [callK_ret, hj2]
   have hmm2 : min (min fb k) (min fb k) = min fb k := by omega
   rw [hmm2]
   simp [g0, g1', g11, g12, hw]
   refine ⟨kk - 1, by omega, i + 1, by omega, h2, min fb k, ⟨rfl, rfl⟩, Nat.le_refl _, fun _ => rfl, ?_, fun b o hb' hn' => keep2 _ _ (keep1 _ _ (hHs _ _ (hkeep b o hb' hn')) hn') hn', cs2, hat2, hF2, rfl, by omega⟩
   have := hHs.len
   omega
  ·have hin : i = 2 * n := by omega
   subst hin
   simp [g0, g1', g11, g12]
   unfold pairQ back
   have hf3 := hf2 (by omega)
   rw [if_neg (by simp; intro _; omega)]
   refine ⟨rfl, hf3, hlen, hkeep, cs, hatB, ?_⟩
   unfold outF
   rw [hGn]; exact hFC
 ·refine ⟨0, hK, hK.length, csK, by omega, rfl, by omega, fun h => by omega, Nat.le_refl _, fun b o hb' _ => hb', hb.fb, ?_, by simp [tok]⟩
  show FacesC csK (4 * n) (glC (4 * G.n))
  rw [hGn]; exact hF
end Go.Proofs.Ytjlkndkedknocaa
namespace Go.Proofs.Ytjlkndkedknocaa
open Go Go.Ai
attribute [local instance] Classical.propDecidable
variable {E : Env} (hE : OE E)
include hE
theorem pairs_ {h : List O} {p : Nat} : DR E 156 [.pointer (some ⟨p, 0, none⟩)] ⟨h, h.length⟩ (.ret (.func (.func 216) #[] #[.pointer (some ⟨h.length, 0, none⟩)])) ⟨h ++ [.cells [.pointer (some ⟨p, 0, none⟩)] 102 (some 0)], h.length⟩ := by
 refine hE.fn (body := rb156) rfl ?_
 unfold rb156
 simp [back, Out.scalar, scalar, flat1, flat]
theorem build_ {h00 h0 : List O} {p fb mb n c : Nat} {a : Option Addr} {L : Int} {x : Nat → Nat → Int} {s : Nat → Int} (hx : CrossP h00 a n x s) (hS : Snd n x s L) (hn : 0 < n) (hs0 : Sub h00 h0) (hfb0 : h00.length ≤ fb)
  (hb : Bld h0 p fb mb a n c L (List.replicate (80 * n) (.int .i64 0))) :
  DC E 86 [.pointer (some ⟨p, 0, none⟩)] ⟨h0, h0.length⟩ fun o st' => o = .ret (.agg #[.slice (some ⟨fb, 0, none⟩) (4 * n) (4 * n)]) ∧ fb ≤ st'.fl ∧ h0.length ≤ st'.h.length ∧ (∀ (b : Nat) (o : O), h0[b]? = some o → b ≠ fb → st'.h[b]? = some o) ∧
   ∃ cs', AtB st'.h fb (.cells cs' 100 (some 20)) ∧ FacesC cs' (4 * n) (outF (dgOf n x s L)) := by
 refine hE.fnC (body := rb86) rfl ?_
 unfold rb86
 have hsz := hS.size
 have k1 := hb.p
 have kf := hb.fb
 obtain ⟨es, cl, km, kM⟩ := hb.mb
 have lfb := (List.getElem?_eq_some_iff.1 kf).1
 have lp := (List.getElem?_eq_some_iff.1 k1).1
 have lm := (List.getElem?_eq_some_iff.1 km).1
 have npf : p ≠ fb := fun e => by rw [← e, k1] at kf; simp at kf
 have nmf : mb ≠ fb := fun e => by rw [← e, km] at kf; cases kf
 have e1 : ∀ l, (h0 ++ l)[p]? = _ := fun l => app_of k1 l
 simp [rd_def, rdN_def, wrN_def, List.append_assoc, app_at, app_at0, e1]
 obtain ⟨hB, hhB⟩ : ∃ H, H = h0 ++ [O.cells [.pointer (some ⟨p, 0, none⟩)] 102 (some 0), O.cells [.slice none 0 0] 29 (some 0)] := ⟨_, rfl⟩
 have hBs : Sub h0 hB := by rw [hhB]; exact (Sub.refl _).app _
 have hB0 : hB[h0.length]? = some (O.cells [.pointer (some ⟨p, 0, none⟩)] 102 (some 0)) := by rw [hhB, app_at0]; rfl
 have hB1 : hB[h0.length + 1]? = some (O.cells [.slice none 0 0] 29 (some 0)) := by rw [hhB, app_at]; rfl
 have lB : hB.length = h0.length + 2 := by rw [hhB]; simp
 rw [← hhB]
 refine DW_loop (fun kk fr st => ∃ (i : Nat) (h : List O) (f : Nat) (cs : List Value), i + kk = n ∧ st = ⟨h, f⟩ ∧ fb ≤ f ∧ hB.length ≤ h.length ∧ (∀ (b : Nat) (o : O), hB[b]? = some o → b ≠ fb → h[b]? = some o) ∧ AtB h fb (.cells cs 100 (some 20)) ∧ FacesC cs (4 * n) (glC (4 * i)) ∧
  get fr 1 = .pointer (some ⟨h0.length, 0, none⟩) ∧ get fr 2 = .pointer (some ⟨h0.length + 1, 0, none⟩) ∧ get fr 15 = .int .i64 n ∧ get fr 16 = .int .i64 i) ?_ (k := n) ?_
 ·rintro kk fr st ⟨i, h, f, cs, hik, rfl, hf, hlen, hkeep, hatB, hFC, g1, g2, g15, g16⟩
  by_cases hi : i < n
  ·simp [g1, g2, g15, g16, hi]
   refine DW_loop (fun kk' fr st => ∃ (q : Nat) (h : List O) (f : Nat) (cs : List Value), q + kk' = 4 ∧ st = ⟨h, f⟩ ∧ fb ≤ f ∧ hB.length ≤ h.length ∧ (∀ (b : Nat) (o : O), hB[b]? = some o → b ≠ fb → h[b]? = some o) ∧ AtB h fb (.cells cs 100 (some 20)) ∧ FacesC cs (4 * n) (glC (4 * i + q)) ∧
    get fr 1 = .pointer (some ⟨h0.length, 0, none⟩) ∧ get fr 2 = .pointer (some ⟨h0.length + 1, 0, none⟩) ∧ get fr 15 = .int .i64 n ∧ get fr 16 = .int .i64 i ∧ get fr 3 = .int .i64 i ∧ get fr 19 = .int .i64 q) ?_ (k := 4) ?_
   ·clear g1 g2 g15 g16 hFC hatB hkeep hlen hf
    clear h f cs
    rintro kk' fr st ⟨q, h, f, cs, hqk, rfl, hf, hlen, hkeep, hatB, hFC, g1, g2, g15, g16, g3, g19⟩
    have hat := hatB
    unfold AtB at hat
    by_cases hq : q < 4
    ·have hq' : (q : Int) < 4 := by omega
     have hw : IntKind.i64.wrap ((q : Int) + 1) = (q : Int) + 1 := by rw [w64_id] <;> omega
     have nf1 : h0.length ≠ fb := by omega
     have hp := hkeep _ _ (hBs _ _ k1) npf
     have hm := hkeep _ _ (hBs _ _ km) nmf
     have hb0 := hkeep _ _ hB0 nf1
     obtain ⟨H, hH⟩ : ∃ H, H = h ++ [O.cells [.int .i64 i, .int .i64 q] 184 (some 0)] := ⟨_, rfl⟩
     have hHs : Sub h H := by rw [hH]; exact (Sub.refl _).app _
     have hHa : H[h.length]? = some (O.cells [.int .i64 i, .int .i64 q] 184 (some 0)) := by rw [hH, app_at0]; rfl
     have hu := fun h => turned_ hE (h := h) (c := i) (p := q) (e := q + 1 + 4) (d := 1) (by omega) (by omega) hq
     rw [show (q + 1 + 4) % 4 = (q + 1) % 4 by omega] at hu
     simp only [endV] at hu
     obtain ⟨q1, hq1⟩ : ∃ q1, q1 = (q + 1) % 4 := ⟨_, rfl⟩
     have hq14 : q1 < 4 := by omega
     rw [← hq1] at hu
     have hl1 := MapIs.look keyII kM (st := ⟨H, min f h.length⟩) (hHs _ _ hm) (i, q) (.int .i64 0) false
     have hl2 := MapIs.look keyII kM (st := ⟨H, min f h.length⟩) (hHs _ _ hm) (i, q1) (.int .i64 0) false
     have s1 : cornJ (4 * n) (i, q) = some (.int .i64 ((4 * i + q : Nat) : Int)) := by unfold cornJ; rw [if_pos ⟨hq, by simp only; omega⟩]
     have s2 : cornJ (4 * n) (i, q1) = some (.int .i64 ((4 * i + q1 : Nat) : Int)) := by unfold cornJ; rw [if_pos ⟨hq14, by simp only; omega⟩]
     rw [s1] at hl1
     rw [s2] at hl2
     simp [kcII] at hl1 hl2
     have hm2 : ((q1 : Nat) : Int).tmod 2 = ((q1 % 2 : Nat) : Int) := tmod_nat q1 2
     obtain ⟨fc, hfc⟩ : ∃ fc : Nat, fc = 3 - q1 % 2 := ⟨_, rfl⟩
     have hw3 : IntKind.i64.wrap (3 - (q1 : Int) % 2) = (fc : Int) := by rw [w64_id] <;> omega
     have hj := join_ hE (hHs _ _ hp) (hHs _ _ hat) hFC (ta := 4 * i + q) (fa := fc) (tb := 4 * i + q1) (fc := fc) (by omega) (by omega) (by omega) (by omega) false npf
     have hjF : joinF (glC (4 * i + q)) (4 * i + q) fc (4 * i + q1) fc false = glC (4 * i + q + 1) := by
      simp only [glC]
      rw [show (4 * i + q) % 4 = q by omega, show (4 * i + q) / 4 = i by omega, ← hq1, ← hfc]
     rw [hjF] at hj
     simp [outV, swV, permV] at hj
     have hmodq : (q1 : Int) % 2 = ((q1 % 2 : Nat) : Int) := by omega
     simp [g1, g2, g15, g16, g3, g19, hq', wrN_at0, set_at0, ← hH, rdN_def, hHa, DC_q hu, partL, hm2, hw3, rd_def, hHs _ _ hb0, hHs _ _ hp, step_lookS, hl1, hl2]
     refine hj.imp ?_
     rintro o ⟨h3, f3⟩ ⟨rfl, j1, j2, j3, cs', j4, j5⟩
     simp only at j1 j2 j3 j4
     subst j1
     have lfH : f3 < H.length := by have := hHs.len; omega
     have hjo : joined ⟨H, min f h.length⟩ ⟨h3, f3⟩ = ⟨h3, f3⟩ := by
      simp only [joined]
      rw [if_pos lfH]
      congr 1
      have := hHs.len
      omega
     simp [lfH, bit, hjo, g1, g2, g15, g16, g3, g19, hw]
     refine ⟨kk' - 1, by omega, q + 1, by omega, h3, f3, ⟨rfl, rfl⟩, Nat.le_refl _, ?_, fun b o hb' hn' => j3 _ _ (hHs _ _ (hkeep b o hb' hn')) hn', cs', j4, j5, by omega⟩
     have := hHs.len
     omega
    ·have hq4 : q = 4 := by omega
     subst hq4
     have hw : IntKind.i64.wrap ((i : Int) + 1) = (i : Int) + 1 := by rw [w64_id] <;> omega
     simp [g1, g2, g15, g16, g3, g19, hw]
     exact ⟨kk - 1, by omega, i + 1, by omega, h, f, ⟨rfl, rfl⟩, hf, hlen, hkeep, cs, hatB, hFC, by omega⟩
   ·exact ⟨0, h, f, cs, by omega, rfl, hf, hlen, hkeep, hatB, hFC, by simp [g1, g2, g15, g16]⟩
  ·have hin : i = n := by omega
   subst hin
   have nf1 : h0.length ≠ fb := by omega
   have hb0 := hkeep _ _ hB0 nf1
   have hb1 := hkeep _ _ hB1 (by omega)
   have hp := hkeep _ _ (hBs _ _ k1) npf
   have hpr := pairs_ hE (h := h) (p := p)
   simp [g1, g2, g15, g16, rd_def, hb0, DC_of hpr, joined_fl]
   obtain ⟨h', hh'⟩ : ∃ H, H = h ++ [O.cells [.pointer (some ⟨p, 0, none⟩)] 102 (some 0)] := ⟨_, rfl⟩
   have hs' : Sub h h' := by rw [hh']; exact (Sub.refl _).app _
   have hpb2 : h'[h.length]? = some (O.cells [.pointer (some ⟨p, 0, none⟩)] 102 (some 0)) := by rw [hh', app_at0]; rfl
   have l' : h'.length = h.length + 1 := by rw [hh']; simp
   rw [← hh']
   refine DW_rangeF (f := 216) (vs := [tok h'.length, .pointer (some ⟨h.length, 0, none⟩)]) (by simp) (by decide) ?_
   obtain ⟨frL, hfrL⟩ : ∃ frL, frL = put (put (put fr 17 (Value.bool false)) 54 (Value.pointer (some ⟨p, 0, none⟩))) 55 (Value.func (.func 216) #[] #[.pointer (some ⟨h.length, 0, none⟩)]) := ⟨_, rfl⟩
   rw [← hfrL]
   have g1L : get frL 1 = .pointer (some ⟨h0.length, 0, none⟩) := by rw [hfrL]; simp [g1]
   have g2L : get frL 2 = .pointer (some ⟨h0.length + 1, 0, none⟩) := by rw [hfrL]; simp [g2]
   obtain ⟨hK, hhK⟩ : ∃ H, H = h' ++ [O.loop false 77 frL [56, 57] (lcA 86 0) (lcB 86 0)] := ⟨_, rfl⟩
   have hsK : Sub h' hK := by rw [hhK]; exact (Sub.refl _).app _
   have hkK : hK[h'.length]? = some (O.loop false 77 frL [56, 57] (lcA 86 0) (lcB 86 0)) := by rw [hhK, app_at0]; rfl
   have lK : hK.length = h'.length + 1 := by rw [hhK]; simp
   rw [← hhK, ← lK]
   have hlfb := (List.getElem?_eq_some_iff.1 hatB).1
   have hs00 : Sub h00 hK := fun b o hb' => hsK _ _ (hs' _ _ (hkeep _ _ (hBs _ _ (hs0 b o hb')) (by have := (List.getElem?_eq_some_iff.1 hb').1; omega)))
   have hbK : Bld hK p fb mb a i c L cs := ⟨hsK _ _ (hs' _ _ hp), hsK _ _ (hs' _ _ hatB), es, cl, hsK _ _ (hs' _ _ (hkeep _ _ (hBs _ _ km) nmf)), kM⟩
   refine (pairs216 hE hx hS hn hs00 hfb0 hkK g1L (hsK _ _ (hs' _ _ hb0)) (hsK _ _ hpb2) hbK hFC).imp ?_
   rintro o ⟨h2, f2⟩ ⟨rfl, j1, j2, j3, cs', j4, j5⟩
   simp only at j1 j2 j3 j4
   have hmin : min fb h'.length = fb := by omega
   rw [hmin] at j1
   subst j1
   have hjo : joined ⟨hK, f⟩ ⟨h2, f2⟩ = ⟨h2, f2⟩ := by
    simp only [joined]
    rw [if_pos (by omega)]
    congr 1
    omega
   have nk : h'.length ≠ f2 := by omega
   have hk2 := j3 _ _ hkK nk
   refine ⟨⟨_, rfl⟩, ⟨h2.set h'.length .dead, f2⟩, by rw [hjo, over_eq hk2, hmin], ?_⟩
   have KK : ∀ (b : Nat) (o : O), h[b]? = some o → b ≠ f2 → (h2.set h'.length .dead)[b]? = some o := fun b o hb' hn' => by
    have := (List.getElem?_eq_some_iff.1 hb').1
    exact set_ne (j3 _ _ (hsK _ _ (hs' _ _ hb')) hn') (by omega)
   have r0 := KK _ _ hb0 nf1
   have r1 := KK _ _ hb1 (by omega)
   have rp := KK _ _ hp npf
   have rf : AtB (h2.set h'.length .dead) f2 (.cells cs' 100 (some 20)) := set_ne j4 (by omega)
   obtain ⟨h3, hh3⟩ : ∃ H, H = h2.set h'.length O.dead := ⟨_, rfl⟩
   have l3 : h3.length = h2.length := by rw [hh3]; simp
   rw [← hh3] at r0 r1 rp rf KK ⊢
   have hmin2 : min f2 (h0.length + 1) = f2 := by omega
   have hself : ∀ o, (h3.set (h0.length + 1) o)[h0.length + 1]? = some o := fun o => set_self r1
   simp [rd_def, rdN_def, wrN_def, g1L, g2L, r0, rp, r1, hmin2, hself]
   unfold pairQ back
   rw [if_neg (by simp [Out.scalar, scalar, flat1, flat])]
   refine ⟨rfl, Nat.le_refl _, by simp; omega, fun b o hb' hn' => set_ne (KK _ _ (hkeep _ _ (hBs _ _ hb') hn') hn') (by have := (List.getElem?_eq_some_iff.1 hb').1; omega), cs', set_ne rf (by omega), j5⟩
 ·refine ⟨0, hB, h0.length, List.replicate (80 * n) (.int .i64 0), by omega, rfl, by omega, Nat.le_refl _, fun b o hb' _ => hb', hBs _ _ kf, ?_, by simp⟩
  rw [show 80 * n = 20 * (4 * n) by omega]
  exact FacesC.zero _
end Go.Proofs.Ytjlkndkedknocaa
namespace Go.Proofs.Ytjlkndkedknocaa
open Go Go.Ai
attribute [local instance] Classical.propDecidable
theorem ask_pos {n : Nat} {x : Nat → Nat → Int} {s : Nat → Int} {L : Int} (h : askD n x s L = 0) : Snd n x s L ∧ 0 < n ∧ n ≤ 200 := by
 obtain ⟨h1, h2⟩ := ask_zero h
 have h3 := (kind_zero h1).1
 have h4 : n ≠ 0 := h2.1
 exact ⟨h3, by omega, h3.size⟩
variable {E : Env} (hE : OE E)
include hE
theorem built_ {h0 : List O} {a : Option Addr} {n c : Nat} {x : Nat → Nat → Int} {s : Nat → Int} {L : Int} (hx : CrossP h0 a n x s) (hk : askD n x s L = 0) :
  DC E 85 [dV a n c L] ⟨h0, h0.length⟩ fun o st' => ∃ p, o = .ret (.pointer (some ⟨p, 0, none⟩)) ∧ h0.length ≤ st'.fl ∧ Sub h0 st'.h ∧ DC E 86 [.pointer (some ⟨p, 0, none⟩)] ⟨st'.h, st'.h.length⟩ fun o2 st2 =>
   ∃ fb, o2 = .ret (.agg #[.slice (some ⟨fb, 0, none⟩) (4 * n) (4 * n)]) ∧ h0.length ≤ fb ∧ h0.length ≤ st2.fl ∧ Sub h0 st2.h ∧ ∃ cs', AtB st2.h fb (.cells cs' 100 (some 20)) ∧ FacesC cs' (4 * n) (outF (dgOf n x s L)) := by
 obtain ⟨hS, hn, hsz⟩ := ask_pos hk
 refine (builderOf_ hE hn hsz).imp ?_
 rintro o ⟨h1, f1⟩ ⟨p, fb, mb, rfl, hf, hs, l1, l2, l3, hB⟩
 refine ⟨p, rfl, hf, hs, ?_⟩
 refine (build_ hE hx hS hn hs l2 hB).imp ?_
 rintro o ⟨h2, f2⟩ ⟨rfl, j1, j2, j3, cs', j4, j5⟩
 refine ⟨fb, rfl, l2, Nat.le_trans l2 j1, fun b o hb => ?_, cs', j4, j5⟩
 exact j3 _ _ (hs _ _ hb) (by have := (List.getElem?_eq_some_iff.1 hb).1; omega)
theorem Outside_ {h0 : List O} {a : Option Addr} {n c : Nat} {x : Nat → Nat → Int} {s : Nat → Int} {L : Int} (hx : CrossP h0 a n x s) :
  DC E 18 [dV a n c L] ⟨h0, h0.length⟩ fun o st' =>
   (askD n x s L ≠ 0 ∧ o = .ret (.tuple #[.agg #[.slice none 0 0], .int .i64 (askD n x s L)]) ∧ st' = ⟨h0, h0.length⟩) ∨
   (askD n x s L = 0 ∧ ∃ fb, o = .ret (.tuple #[.agg #[.slice (some ⟨fb, 0, none⟩) (4 * n) (4 * n)], .int .i64 0]) ∧ h0.length ≤ fb ∧ h0.length ≤ st'.fl ∧ Sub h0 st'.h ∧ ∃ cs', AtB st'.h fb (.cells cs' 100 (some 20)) ∧ FacesC cs' (4 * n) (outF (dgOf n x s L))) := by
 refine hE.fnC (body := rb18) rfl ?_
 unfold rb18
 obtain ⟨hB, hhB⟩ : ∃ H, H = h0 ++ [O.cells [.slice a n c, .int .i64 L] 24 (some 0), O.cells [.slice none 0 0] 29 (some 0)] := ⟨_, rfl⟩
 have hBs : Sub h0 hB := by rw [hhB]; exact (Sub.refl _).app _
 have lB : hB.length = h0.length + 2 := by rw [hhB]; simp
 have hB0 : hB[h0.length]? = some (O.cells [.slice a n c, .int .i64 L] 24 (some 0)) := by rw [hhB, app_at0]; rfl
 have hB1 : hB[h0.length + 1]? = some (O.cells [.slice none 0 0] 29 (some 0)) := by rw [hhB, app_at]; rfl
 have hask := asked_ hE (c := c) (L := L) (hx.sub hBs)
 simp [dV, List.append_assoc, ← hhB, rdN_def, hB0]
 simp only [dV] at hask
 by_cases hk : askD n x s L = 0
 ·have hbt := built_ hE (c := c) (hx.sub hBs) hk
  rw [hk] at hask
  simp only [dV] at hbt
  simp [DC_of hask, joined_fl, rdN_def, hB0]
  refine hbt.imp ?_
  rintro o ⟨h1, f1⟩ ⟨p, rfl, hf, hs, hbd⟩
  simp only at hf hs hbd
  simp [joined_fl, hf, Nat.le_trans (by omega : h0.length ≤ hB.length) hf]
  refine hbd.imp ?_
  rintro o ⟨h2, f2⟩ ⟨fb, rfl, l1, l2, hs2, cs', hat, hFC⟩
  simp only at l2 hs2 hat
  have hB12 := hs2 _ _ hB1
  have hl2 := hs2.len
  have hjo : joined ⟨h1, h0.length⟩ ⟨h2, f2⟩ = ⟨h2, h0.length⟩ := by
   simp only [joined]
   split
   ·congr 1; omega
   ·rfl
  have hmin : min h0.length (h0.length + 1) = h0.length := by omega
  have hself : ∀ o, (h2.set (h0.length + 1) o)[h0.length + 1]? = some o := fun o => set_self hB12
  simp [hjo, wrN_def, hB12, hmin, rdN_def, hself]
  unfold pairQ back
  rw [if_neg (by simp [Out.scalar, scalar, flat1, flat])]
  refine .inr ⟨hk, fb, rfl, by omega, Nat.le_refl _, (hBs.trans hs2).set (by omega) _, cs', set_ne hat (by omega), hFC⟩
 ·simp [DC_of hask, joined_fl, hk, wrN_def, hB1]
  have hmin : min h0.length (h0.length + 1) = h0.length := by omega
  have hself : ∀ o, (hB.set (h0.length + 1) o)[h0.length + 1]? = some o := fun o => set_self hB1
  simp [rdN_def, hself, hmin, back_scalar, Out.scalar, scalar, flat1, flat, hk]
theorem Arc_ {h0 : List O} {a : Option Addr} {n c : Nat} {x : Nat → Nat → Int} {s : Nat → Int} {L : Int} (hx : CrossP h0 a n x s) {arc : Int} :
  DC E 26 [dV a n c L, .int .i64 arc] ⟨h0, h0.length⟩ fun o st' =>
   (askD n x s L ≠ 0 ∧ o = .ret (.tuple #[.slice none 0 0, .int .i64 (askD n x s L)]) ∧ st' = ⟨h0, h0.length⟩) ∨
   (askD n x s L = 0 ∧ ¬ (0 ≤ arc ∧ arc < 2 * n) ∧ o = .ret (.tuple #[.slice none 0 0, .int .i64 1]) ∧ st' = ⟨h0, h0.length⟩) ∨
   (askD n x s L = 0 ∧ (0 ≤ arc ∧ arc < 2 * n) ∧ ∃ b, o = .ret (.tuple #[.slice (some ⟨b, 0, none⟩) 4 4, .int .i64 0]) ∧ h0.length ≤ b ∧ h0.length ≤ st'.fl ∧ Sub h0 st'.h ∧ AtB st'.h b (.cells (alongC (dgOf n x s L) arc.toNat) 112 (some 0))) := by
 refine hE.fnC (body := rb26) rfl ?_
 unfold rb26
 obtain ⟨hB, hhB⟩ : ∃ H, H = h0 ++ [O.cells [.slice a n c, .int .i64 L] 24 (some 0)] := ⟨_, rfl⟩
 have hBs : Sub h0 hB := by rw [hhB]; exact (Sub.refl _).app _
 have lB : hB.length = h0.length + 1 := by rw [hhB]; simp
 have hB0 : hB[h0.length]? = some (O.cells [.slice a n c, .int .i64 L] 24 (some 0)) := by rw [hhB, app_at0]; rfl
 have hask := asked_ hE (c := c) (L := L) (hx.sub hBs)
 simp [dV, List.append_assoc, ← hhB, rdN_def, hB0]
 simp only [dV] at hask
 by_cases hk : askD n x s L = 0
 ·obtain ⟨hS, hn, hsz⟩ := ask_pos hk
  have hw2n : IntKind.i64.wrap (2 * (n : Int)) = 2 * n := by rw [w64_id] <;> omega
  rw [hk] at hask
  by_cases ha : 0 ≤ arc ∧ arc < 2 * n
  ·have d1 : ¬ arc < 0 := by omega
   have d2 : ¬ 2 * (n : Int) ≤ arc := by omega
   have hbt := builderOf_ hE (h0 := hB) (a := a) (c := c) (L := L) hn hsz
   simp only [dV] at hbt
   simp [DC_of hask, joined_fl, rdN_def, rd_def, hB0, d1, d2, hw2n]
   refine hbt.imp ?_
   rintro o ⟨h1, f1⟩ ⟨p, fb, mb, rfl, hf, hs, l1, l2, l3, hBd⟩
   simp only at hf hs hBd
   obtain ⟨ar, har⟩ : ∃ ar : Nat, arc = ar := ⟨arc.toNat, by omega⟩
   subst har
   have hal := along_ hE hBd (hx.sub (hBs.trans hs)) hS (arc := ar) (by omega)
   have hac : alongC (dgOf n x s L) ar = [Value.int .i64 (alT (dgOf n x s L) ar 0), .int .i64 (alF (dgOf n x s L) ar 0), .int .i64 (alT (dgOf n x s L) ar 1), .int .i64 (alF (dgOf n x s L) ar 1), .int .i64 (alT (dgOf n x s L) ar 2), .int .i64 (alF (dgOf n x s L) ar 2), .int .i64 (alT (dgOf n x s L) ar 3), .int .i64 (alF (dgOf n x s L) ar 3)] := rfl
   simp only [Int.toNat_natCast]
   rw [hac] at hal ⊢
   have hsl : ∀ c, sliceV (h1 ++ [O.cells c 112 (some 0)]) 2 (.slice (some ⟨h1.length, 0, none⟩) 4 4) none none none = some (.slice (some ⟨h1.length, 0, none⟩) 4 4) := fun c => sliceV_full (app_at0 _ _)
   simp [joined_fl, hf, DC_of hal, wrN_at0, set_at0, hsl]
   unfold pairQ back
   rw [if_neg (by simp [Out.scalar, scalar, flat1, flat])]
   have hl1 := (hBs.trans hs).len
   refine .inr ⟨hk, by omega, h1.length, rfl, hl1, by simp; omega, (hBs.trans hs).app _, app_at0 _ _⟩
  ·by_cases d1 : arc < 0
   ·simp [DC_of hask, joined_fl, rdN_def, rd_def, hB0, d1, back_scalar, Out.scalar, scalar, flat1, flat]
    exact .inr ⟨hk, by omega⟩
   ·have d2 : 2 * (n : Int) ≤ arc := by omega
    simp [DC_of hask, joined_fl, rdN_def, rd_def, hB0, d1, d2, hw2n, back_scalar, Out.scalar, scalar, flat1, flat]
    exact .inr hk
 ·simp [DC_of hask, joined_fl, hk, back_scalar, Out.scalar, scalar, flat1, flat]
end Go.Proofs.Ytjlkndkedknocaa
namespace Go.Ai
attribute [local instance] Classical.propDecidable
inductive VC (nb : Nat → Nat → Option Nat) : Nat → Nat → Prop
 | refl (a : Nat) : VC nb a a
 | step {a b w : Nat} (f : Nat) : VC nb a b → f < 4 → nb b f = some w → VC nb a w
theorem VC.trans {nb : Nat → Nat → Option Nat} {a b c : Nat} (h : VC nb a b) (k : VC nb b c) : VC nb a c := by
 induction k with
 | refl => exact h
 | step f _ hf hw ih => exact ih.step f hf hw
def qn (qs : List Nat) (t : Nat) : Nat := qs.getD t 0
theorem qn_mem {qs : List Nat} {t : Nat} (h : t < qs.length) : qn qs t ∈ qs := by
 unfold qn
 rw [List.getD_eq_getElem?_getD, List.getElem?_eq_getElem h]
 exact List.getElem_mem h
theorem qn_snoc {qs : List Nat} {x t : Nat} (h : t < qs.length + 1) : qn (qs ++ [x]) t = if t < qs.length then qn qs t else x := by
 unfold qn
 by_cases h1 : t < qs.length
 ·rw [if_pos h1]; simp [List.getD_eq_getElem?_getD, List.getElem?_append_left h1]
 ·rw [if_neg h1, List.getD_eq_getElem?_getD, List.getElem?_append_right (by omega), show t - qs.length = 0 by omega]; rfl
def unm (bs : List Bool) : Nat := bs.countP fun b => !b
theorem unm_set {bs : List Bool} {i : Nat} (hi : i < bs.length) (h : bnth bs i = false) : unm (bs.set i true) + 1 = unm bs := by
 have hx : bs[i] = false := by simpa [bnth, hi] using h
 have hpos : 0 < List.countP (fun b => !b) bs := List.countP_pos_iff.2 ⟨bs[i], List.getElem_mem hi, by simp [hx]⟩
 unfold unm
 rw [List.countP_set hi, if_pos (by simp [hx]), if_neg (by simp)]
 omega
theorem unm_le (bs : List Bool) : unm bs ≤ bs.length := List.countP_le_length
structure CB (N : Nat) (nb : Nat → Nat → Option Nat) (v : Nat) (bs : List Bool) : Prop where
 len : bs.length = N
 closed : ∀ u f w, u < N → bnth bs u = true → f < 4 → nb u f = some w → bnth bs w = true
 done : ∀ u, u < v → bnth bs u = true
 src : ∀ u, u < N → bnth bs u = true → ∃ w, w < v ∧ VC nb w u
structure CQ (N : Nat) (nb : Nat → Nat → Option Nat) (r k f : Nat) (bs0 bs : List Bool) (qs : List Nat) : Prop where
 len : bs.length = N
 old : ∀ u, bnth bs0 u = true → bnth bs u = true
 new : ∀ u, bnth bs u = true → bnth bs0 u = true ∨ u ∈ qs
 inq : ∀ u, u ∈ qs → u < N ∧ bnth bs u = true ∧ VC nb r u
 procd : ∀ t, t < k → ∀ f' w, f' < 4 → nb (qn qs t) f' = some w → bnth bs w = true
 cur : ∀ f' w, f' < f → nb (qn qs k) f' = some w → bnth bs w = true
variable {N : Nat} {nb : Nat → Nat → Option Nat}
theorem CB.reach {v : Nat} {bs : List Bool} (h : CB N nb v bs) (hN : ∀ u f w, u < N → f < 4 → nb u f = some w → w < N) {a b : Nat} (ha : a < N) (hm : bnth bs a = true) (hc : VC nb a b) : b < N ∧ bnth bs b = true := by
 induction hc with
 | refl => exact ⟨ha, hm⟩
 | step f _ hf hw ih => exact ⟨hN _ f _ ih.1 hf hw, h.closed _ f _ ih.1 ih.2 hf hw⟩
theorem CB.met {v : Nat} {bs : List Bool} (h : CB N nb v bs) (hN : ∀ u f w, u < N → f < 4 → nb u f = some w → w < N) (hv : v < N) : bnth bs v = true ↔ ∃ w, w < v ∧ VC nb w v :=
 ⟨h.src v hv, fun ⟨w, h1, h2⟩ => (h.reach hN (by omega) (h.done w h1) h2).2⟩
theorem CB.start : CB N nb 0 (List.replicate N false) :=
 ⟨by simp, fun u f w hu hm => (by rw [bnth_rep hu] at hm; cases hm), fun u hu => by omega, fun u hu hm => (by rw [bnth_rep hu] at hm; cases hm)⟩
theorem CB.skip {v : Nat} {bs : List Bool} (h : CB N nb v bs) (hm : bnth bs v = true) : CB N nb (v + 1) bs :=
 ⟨h.len, h.closed, fun u hu => by
  by_cases e : u = v
  ·rw [e]; exact hm
  ·exact h.done u (by omega), fun u hu hm' => by obtain ⟨w, h1, h2⟩ := h.src u hu hm'; exact ⟨w, by omega, h2⟩⟩
theorem CQ.start {v : Nat} {bs : List Bool} (h : CB N nb v bs) (hv : v < N) : CQ N nb v 0 0 bs (bs.set v true) [v] :=
 ⟨by simp [h.len], fun u hu => by
  rw [bnth_set (by rw [h.len]; exact hv)]
  split
  ·rfl
  ·exact hu, fun u hu => by
  rw [bnth_set (by rw [h.len]; exact hv)] at hu
  split at hu
  ·rename_i e; right; simp [e]
  ·exact .inl hu, fun u hu => by
  simp at hu
  subst hu
  exact ⟨hv, by rw [bnth_set (by rw [h.len]; exact hv), if_pos rfl], .refl _⟩, fun t ht => by omega, fun f' w hf => by omega⟩
theorem CQ.pass {r k f : Nat} {bs0 bs : List Bool} {qs : List Nat} (h : CQ N nb r k f bs0 bs qs) (hp : ∀ w, nb (qn qs k) f = some w → bnth bs w = true) : CQ N nb r k (f + 1) bs0 bs qs :=
 ⟨h.len, h.old, h.new, h.inq, h.procd, fun f' w hf hw => by
  by_cases e : f' = f
  ·subst e; exact hp w hw
  ·exact h.cur f' w (by omega) hw⟩
theorem CQ.add {r k f w : Nat} {bs0 bs : List Bool} {qs : List Nat} (h : CQ N nb r k f bs0 bs qs) (hk : k < qs.length) (hf : f < 4) (hw : nb (qn qs k) f = some w) (hwN : w < N) : CQ N nb r k (f + 1) bs0 (bs.set w true) (qs ++ [w]) := by
 have hs : ∀ u, bnth (bs.set w true) u = if u = w then true else bnth bs u := fun u => bnth_set (by rw [h.len]; exact hwN)
 have hold : ∀ u, bnth bs u = true → bnth (bs.set w true) u = true := fun u hu => by
  rw [hs]; split
  ·rfl
  ·exact hu
 have hq : ∀ t, t < qs.length → qn (qs ++ [w]) t = qn qs t := fun t ht => by rw [qn_snoc (by omega), if_pos ht]
 refine ⟨by simp [h.len], fun u hu => hold u (h.old u hu), fun u hu => ?_, fun u hu => ?_, fun t ht f' w' hf' hw' => ?_, fun f' w' hf' hw' => ?_⟩
 ·rw [hs] at hu
  by_cases e : u = w
  ·right; simp [e]
  ·rw [if_neg e] at hu
   rcases h.new u hu with h1 | h1
   ·exact .inl h1
   ·right; simp [h1]
 ·simp only [List.mem_append, List.mem_singleton] at hu
  rcases hu with hu | rfl
  ·obtain ⟨a, b, c⟩ := h.inq u hu
   exact ⟨a, hold u b, c⟩
  ·exact ⟨hwN, by rw [hs, if_pos rfl], (h.inq _ (qn_mem hk)).2.2.step f hf hw⟩
 ·rw [hq t (by omega)] at hw'
  exact hold _ (h.procd t ht f' w' hf' hw')
 ·rw [hq k hk] at hw'
  by_cases e : f' = f
  ·subst e
   rw [hw] at hw'
   obtain rfl := Option.some.inj hw'
   rw [hs, if_pos rfl]
  ·exact hold _ (h.cur f' w' (by omega) hw')
theorem CQ.next {r k : Nat} {bs0 bs : List Bool} {qs : List Nat} (h : CQ N nb r k 4 bs0 bs qs) : CQ N nb r (k + 1) 0 bs0 bs qs :=
 ⟨h.len, h.old, h.new, h.inq, fun t ht f' w hf hw => by
  by_cases e : t = k
  ·subst e; exact h.cur f' w hf hw
  ·exact h.procd t (by omega) f' w hf hw, fun f' w hf => by omega⟩
theorem CQ.finish {v k : Nat} {bs0 bs : List Bool} {qs : List Nat} (h : CQ N nb v k 0 bs0 bs qs) (h0 : CB N nb v bs0) (hk : k = qs.length) (hv : bnth bs v = true) : CB N nb (v + 1) bs := by
 subst hk
 refine ⟨h.len, fun u f w hu hm hf hw => ?_, fun u hu => ?_, fun u hu hm => ?_⟩
 ·rcases h.new u hm with h1 | h1
  ·exact h.old _ (h0.closed u f w hu h1 hf hw)
  ·obtain ⟨t, ht, rfl⟩ := List.getElem_of_mem h1
   refine h.procd t ht f w hf ?_
   rw [show qn qs t = qs[t] by simp [qn, ht]]
   exact hw
 ·by_cases e : u = v
  ·rw [e]; exact hv
  ·exact h.old u (h0.done u (by omega))
 ·rcases h.new u hm with h1 | h1
  ·obtain ⟨w, a, b⟩ := h0.src u hu h1
   exact ⟨w, by omega, b⟩
  ·exact ⟨v, by omega, (h.inq u h1).2.2⟩
noncomputable def firstsV (nb : Nat → Nat → Option Nat) : Nat → List Nat
 | 0 => []
 | v + 1 => if ∃ w, w < v ∧ VC nb w v then firstsV nb v else firstsV nb v ++ [v]
theorem firstsV_old {nb : Nat → Nat → Option Nat} {v : Nat} (h : ∃ w, w < v ∧ VC nb w v) : firstsV nb (v + 1) = firstsV nb v := by rw [firstsV, if_pos h]
theorem firstsV_new {nb : Nat → Nat → Option Nat} {v : Nat} (h : ¬ ∃ w, w < v ∧ VC nb w v) : firstsV nb (v + 1) = firstsV nb v ++ [v] := by rw [firstsV, if_neg h]
theorem firstsV_len (nb : Nat → Nat → Option Nat) : ∀ v, (firstsV nb v).length ≤ v := by
 intro v
 induction v with
 | zero => simp [firstsV]
 | succ v ih =>
  simp only [firstsV]
  split
  ·omega
  ·simp; omega
end Go.Ai
namespace Go.Proofs.Ytjlkndkedknocaa
open Go Go.Ai
attribute [local instance] Classical.propDecidable
def pm (sw : Bool) (i : Nat) : Nat := if sw then (if i = 0 then 1 else if i = 1 then 0 else i) else i
def fcT : Option (Nat × Bool) → Nat
 | none => 0
 | some (t, _) => t
def fcP : Option (Nat × Bool) → Nat → Nat
 | none, _ => 0
 | some (_, sw), i => pm sw i
theorem fcC_eq (x : Option (Nat × Bool)) : fcC x = [.int .i64 (fcT x), .int .i64 (fcP x 0), .int .i64 (fcP x 1), .int .i64 (fcP x 2), .int .i64 (fcP x 3)] := by
 rcases x with _ | ⟨t, sw⟩
 ·rfl
 ·cases sw <;> rfl
theorem fcP_lt (x : Option (Nat × Bool)) {i : Nat} (hi : i < 4) : fcP x i < 4 := by
 rcases x with _ | ⟨t, sw⟩
 ·simp [fcP]
 ·cases sw <;> simp only [fcP, pm] <;> (repeat' split) <;> omega
def nbF (F : Nat → Nat → Option (Nat × Bool)) (u f : Nat) : Option Nat := if f = u % 4 then none else some (fcT (F (u / 4) f) * 4 + fcP (F (u / 4) f) (u % 4))
theorem joinF_lt {M : Nat} {F : Nat → Nat → Option (Nat × Bool)} (h : 0 < M) (hF : ∀ t f, fcT (F t f) < M) {ta fa tb fb : Nat} {sw : Bool} (h1 : ta < M) (h2 : tb < M) : ∀ t f, fcT (joinF F ta fa tb fb sw t f) < M := by
 intro t f
 unfold joinF updF
 split
 ·exact h1
 ·split
  ·exact h2
  ·exact hF t f
theorem glC_lt {M : Nat} : ∀ j, 0 < M → (∀ i, i < j → i < M ∧ 4 * (i / 4) + 3 < M) → ∀ t f, fcT (glC j t f) < M := by
 intro j
 induction j with
 | zero => intro hM _ t f; exact hM
 | succ j ih =>
  intro hM h
  obtain ⟨a, b⟩ := h j (by omega)
  exact joinF_lt hM (ih hM fun i hi => h i (by omega)) a (by omega)
theorem outF_lt {G : Dg} (hG : GoodG G) (hn : 0 < G.n) (t f : Nat) : fcT (outF G t f) < 4 * G.n := by
 have : ∀ a, a ≤ 2 * G.n → ∀ t f, fcT (glA G a t f) < 4 * G.n := by
  intro a
  induction a with
  | zero => intro _; exact glC_lt _ (by omega) fun i hi => by omega
  | succ a ih =>
   intro ha
   have q := fun k => (alT_lt hG (a := a) (by omega) k).1
   exact joinF_lt (by omega) (joinF_lt (by omega) (ih (by omega)) (q 0) (q 1)) (q 2) (q 3)
 exact this _ (Nat.le_refl _) t f
theorem nbF_lt {G : Dg} (hG : GoodG G) (hn : 0 < G.n) {u f w : Nat} (h : nbF (outF G) u f = some w) : w < 16 * G.n := by
 unfold nbF at h
 split at h
 ·cases h
 ·obtain rfl := Option.some.inj h
  have h1 := outF_lt hG hn (u / 4) f
  have h2 := fcP_lt (outF G (u / 4) f) (i := u % 4) (Nat.mod_lt _ (by omega))
  omega
def nodesC (qs : List Nat) : List Value := qs.flatMap fun u => [.int .i64 ((u / 4 : Nat) : Int), .int .i64 ((u % 4 : Nat) : Int)]
theorem nodesC_app (qs : List Nat) (u : Nat) : nodesC (qs ++ [u]) = nodesC qs ++ [.int .i64 ((u / 4 : Nat) : Int), .int .i64 ((u % 4 : Nat) : Int)] := by simp [nodesC]
theorem nodesC_get {qs : List Nat} {t : Nat} (ht : t < qs.length) : (nodesC qs)[t * 2]? = some (.int .i64 ((qn qs t / 4 : Nat) : Int)) ∧ (nodesC qs)[t * 2 + 1]? = some (.int .i64 ((qn qs t % 4 : Nat) : Int)) := by
 induction qs generalizing t with
 | nil => simp at ht
 | cons a l ih =>
  rw [show nodesC (a :: l) = .int .i64 ((a / 4 : Nat) : Int) :: .int .i64 ((a % 4 : Nat) : Int) :: nodesC l from rfl]
  cases t with
  | zero => exact ⟨rfl, rfl⟩
  | succ t =>
   have := ih (t := t) (by simpa using ht)
   rw [show (t + 1) * 2 = t * 2 + 1 + 1 by omega, show t * 2 + 1 + 1 + 1 = (t * 2 + 1) + 1 + 1 by omega]
   simpa [qn] using this
def cuspV (G : Dg) (xs : List Int) (v : Nat) : Int := match v % 4 with
 | 0 => nth xs (G.X (v / 16) 1)
 | 1 => nth xs (G.X (v / 16) 0)
 | i => 1 - i
noncomputable def cuspL (G : Dg) (xs : List Int) (v : Nat) : List Int := (firstsV (nbF (outF G)) v).map (cuspV G xs)
theorem cuspL_len (G : Dg) (xs : List Int) (v : Nat) : (cuspL G xs v).length ≤ v := by
 unfold cuspL
 rw [List.length_map]
 exact firstsV_len _ _
theorem FacesC.row {cs : List Value} {N : Nat} {F : Nat → Nat → Option (Nat × Bool)} (h : FacesC cs N F) {t : Nat} (ht : t < N) : (cs.drop (t * 20)).take 20 = fcC (F t 0) ++ fcC (F t 1) ++ fcC (F t 2) ++ fcC (F t 3) := by
 have hl : (fcC (F t 0) ++ fcC (F t 1) ++ fcC (F t 2) ++ fcC (F t 3)).length = 20 := by simp [fcC_len]
 have hL := h.1
 have main : (cs.drop (t * 20)).take (fcC (F t 0) ++ fcC (F t 1) ++ fcC (F t 2) ++ fcC (F t 3)).length = fcC (F t 0) ++ fcC (F t 1) ++ fcC (F t 2) ++ fcC (F t 3) := by
  refine take_of_get (fun j hj => ?_) (by omega)
  rw [hl] at hj
  have key : ∀ f, f < 4 → ∀ i, i < 5 → cs[t * 20 + (f * 5 + i)]? = (fcC (F t f))[i]? := fun f hf i hi => by rw [← Nat.add_assoc]; exact h.2 t f ht hf i hi
  have l0 := fcC_len (F t 0)
  have l1 := fcC_len (F t 1)
  have l2 := fcC_len (F t 2)
  have l3 := fcC_len (F t 3)
  by_cases h0 : j < 5
  ·rw [List.getElem?_append_left (by simp; omega), List.getElem?_append_left (by simp; omega), List.getElem?_append_left (by omega)]
   have := key 0 (by omega) j h0
   rw [← this]; congr 1; omega
  ·by_cases h1 : j < 10
   ·rw [List.getElem?_append_left (by simp; omega), List.getElem?_append_left (by simp; omega), List.getElem?_append_right (by omega), l0]
    have := key 1 (by omega) (j - 5) (by omega)
    rw [← this]; congr 1; omega
   ·by_cases h2 : j < 15
    ·rw [List.getElem?_append_left (by simp; omega), List.getElem?_append_right (by simp; omega), List.length_append, l0, l1]
     have := key 2 (by omega) (j - 10) (by omega)
     rw [← this]; congr 1; omega
    ·rw [List.getElem?_append_right (by simp; omega), List.length_append, List.length_append, l0, l1, l2]
     have := key 3 (by omega) (j - 15) (by omega)
     rw [← this]; congr 1; omega
 rw [hl] at main
 exact main
theorem row_face (F : Nat → Nat → Option (Nat × Bool)) (t f : Nat) (hf : f < 4) : partL (fcC (F t 0) ++ fcC (F t 1) ++ fcC (F t 2) ++ fcC (F t 3)) (f * 5) (some 5) = some (.agg (fcC (F t f)).toArray) := by
 simp only [fcC_eq]
 match f, hf with
 | 0, _ => rfl
 | 1, _ => rfl
 | 2, _ => rfl
 | 3, _ => rfl
end Go.Proofs.Ytjlkndkedknocaa
