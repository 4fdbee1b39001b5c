/- Texts that were built one by one: Od1, Od2, Od3, Od5, Od4, Od6, Od7, Od8, Od9, Od10, Od11, Od12, Odc, Od13, Odp, Od14, On1, Od15, Od16. -/
import Derived.Test.YtjlkndkedknocaaMc
import Derived.Test.YtjlkndkedknocaaAiFm
set_option linter.unusedSimpArgs false
set_option linter.unusedVariables false
namespace Go.Ai
theorem app_at (h l : List O) (k : Nat) : (h ++ l)[h.length + k]? = l[k]? := by
 rw [List.getElem?_append_right (Nat.le_add_right _ _), Nat.add_sub_cancel_left]
theorem app_at0 (h l : List O) : (h ++ l)[h.length]? = l[0]? := app_at h l 0
theorem app_of {h : List O} {b : Nat} {o : O} (hb : h[b]? = some o) (l : List O) : (h ++ l)[b]? = some o := by
 rw [List.getElem?_append_left (List.getElem?_eq_some_iff.1 hb).1]; exact hb
theorem set_at (h l : List O) (k : Nat) (o : O) : (h ++ l).set (h.length + k) o = h ++ l.set k o := by
 rw [List.set_append_right _ _ (Nat.le_add_right _ _), Nat.add_sub_cancel_left]
theorem set_at0 (h l : List O) (o : O) : (h ++ l).set h.length o = h ++ l.set 0 o := set_at h l 0 o
theorem rdN_app {h : List O} {b i n : Nat} {v : List Value} (hr : rdN h b i n = some v) (l : List O) : rdN (h ++ l) b i n = some v := rdN_append hr l
theorem rd_of_rdN {h : List O} {b i n j : Nat} {l : List Value} (hr : rdN h b i n = some l) (hj : j < n) : rd h b (i + j) = l[j]? := by
 unfold rdN at hr
 unfold rd
 split at hr
 ·rename_i c e o hb
  split at hr
  ·obtain rfl := Option.some.inj hr
   simp [hb, List.getElem?_take, hj]
  ·cases hr
 ·cases hr
def rdO : Option O → Nat → Option Value
 | some (.cells c _ _), i => c[i]?
 | _, _ => none
def rdNO : Option O → Nat → Nat → Option (List Value)
 | some (.cells c _ _), i, n => if i + n ≤ c.length then some ((c.drop i).take n) else none
 | _, _, _ => none
def wrO (h : List O) (b : Nat) : Option O → Nat → List Value → Option (List O)
 | some (.cells c e (some s)), i, vs => if i + vs.length ≤ c.length ∧ vs.all one1 = true then some (h.set b (.cells (setL c i vs) e (some s))) else none
 | _, _, _ => none
@[simp] theorem rdO_cells {c : List Value} {e : TypeId} {s : Option Nat} {i : Nat} : rdO (some (.cells c e s)) i = c[i]? := rfl
@[simp] theorem rdNO_cells {c : List Value} {e : TypeId} {s : Option Nat} {i n : Nat} : rdNO (some (.cells c e s)) i n = if i + n ≤ c.length then some ((c.drop i).take n) else none := rfl
@[simp] theorem wrO_cells {h : List O} {b : Nat} {c : List Value} {e : TypeId} {s i : Nat} {vs : List Value} : wrO h b (some (.cells c e (some s))) i vs = if i + vs.length ≤ c.length ∧ vs.all one1 = true then some (h.set b (.cells (setL c i vs) e (some s))) else none := rfl
theorem rd_def (h : List O) (b i : Nat) : rd h b i = rdO h[b]? i := by unfold rd rdO; split <;> rename_i hb <;> simp_all
theorem rdN_def (h : List O) (b i n : Nat) : rdN h b i n = rdNO h[b]? i n := by unfold rdN rdNO; split <;> rename_i hb <;> simp_all
theorem wrN_def (h : List O) (b i : Nat) (vs : List Value) : wrN h b i vs = wrO h b h[b]? i vs := by unfold wrN wrO; split <;> rename_i hb <;> simp_all
theorem rd_at (h l : List O) (k i : Nat) : rd (h ++ l) (h.length + k) i = rdO l[k]? i := by rw [rd_def, app_at]
theorem rd_at0 (h l : List O) (i : Nat) : rd (h ++ l) h.length i = rdO l[0]? i := rd_at h l 0 i
theorem rdN_at (h l : List O) (k i n : Nat) : rdN (h ++ l) (h.length + k) i n = rdNO l[k]? i n := by rw [rdN_def, app_at]
theorem rdN_at0 (h l : List O) (i n : Nat) : rdN (h ++ l) h.length i n = rdNO l[0]? i n := rdN_at h l 0 i n
theorem wrN_at (h l : List O) (k i : Nat) (vs : List Value) : wrN (h ++ l) (h.length + k) i vs = wrO (h ++ l) (h.length + k) l[k]? i vs := by rw [wrN_def, app_at]
theorem wrN_at0 (h l : List O) (i : Nat) (vs : List Value) : wrN (h ++ l) h.length i vs = wrO (h ++ l) h.length l[0]? i vs := wrN_at h l 0 i vs
@[simp] theorem key_ii (a b : Int) : keyCells [some .i64, some .i64] true (.agg #[.int .i64 a, .int .i64 b]) = some [.int .i64 a, .int .i64 b] := rfl
@[simp] theorem key_ib (a : Int) (b : Bool) : keyCells [some .i64, none] true (.agg #[.int .i64 a, .bool b]) = some [.int .i64 a, .bool b] := rfl
@[simp] theorem eqCells_ii (a b c d : Int) : eqCells [.int .i64 a, .int .i64 b] [.int .i64 c, .int .i64 d] = (decide (a = c) && decide (b = d)) := by
 show (a == c && (b == d && true)) = _
 rw [Bool.eq_iff_iff]; simp
@[simp] theorem eqCells_ib (a c : Int) (b d : Bool) : eqCells [.int .i64 a, .bool b] [.int .i64 c, .bool d] = (decide (a = c) && decide (b = d)) := by
 show (a == c && (b == d && true)) = _
 rw [Bool.eq_iff_iff]; simp
theorem tmod_nat (y n : Nat) : (y : Int).tmod n = ((y % n : Nat) : Int) := by
 rw [Int.tmod_eq_emod_of_nonneg (by omega)]; rfl
theorem tmod_add (y d n : Nat) : ((y : Int) + d).tmod n = (((y + d) % n : Nat) : Int) := by
 rw [← Int.natCast_add, tmod_nat]
@[simp] theorem binV_rem4 {k a} : binV .rem (.int k a) (.int k 4) = some (.int k (a.tmod 4)) := by simp [binV, intBin]
@[simp] theorem binV_rem2 {k a} : binV .rem (.int k a) (.int k 2) = some (.int k (a.tmod 2)) := by simp [binV, intBin]
theorem bit (x i : Nat) : x.testBit i = decide (x / 2 ^ i % 2 = 1) := Nat.testBit_eq_decide_div_mod_eq
end Go.Ai
namespace Go.Proofs.Ytjlkndkedknocaa
open Go Go.Ai
attribute [local instance] Classical.propDecidable
variable {E : Env} (hE : OE E)
include hE
theorem OE.fnC {f : FuncId} {body : R} {res : List RRes} {args : List Value} {st : St} {Q : Out → St → Prop} (h : rF f = some ⟨body, res⟩) (hw : DW E body args st (endK res st Q)) (hlt : ¬ yB ≤ f := by decide) (hs : f ≠ 148 := by decide) : DC E f args st Q :=
 (DC_fn (hE.F f _ h) (hE.S f (by rw [h]; rfl) hs) hlt).2 hw
theorem OE.fn {f : FuncId} {body : R} {res : List RRes} {args : List Value} {st : St} {o : Out} {st' : St} (h : rF f = some ⟨body, res⟩) (hw : DW E body args st (endK res st fun o2 st2 => o2 = o ∧ st2 = st')) (hlt : ¬ yB ≤ f := by decide) (hs : f ≠ 148 := by decide) : DR E f args st o st' :=
 DR_of (hE.fnC h hw hlt hs)
def int (n : Int) : Value := .int .i64 n
def crossV (x : Nat → Int) (s : Int) : Value := .agg #[.int .i64 (x 0), .int .i64 (x 1), .int .i64 (x 2), .int .i64 (x 3), .int .i64 s]
def endV (x : Nat × Nat) : Value := .agg #[.int .i64 x.1, .int .i64 x.2]
theorem out123 {h : List O} {x : Nat → Int} {s : Int} {q : Nat} (hs : s = 1 ∨ s = -1) :
  DR E 239 [crossV x s, .int .i64 q] ⟨h, h.length⟩ (.ret (.bool (decide ((q : Int) = 2 ∨ (q : Int) = 2 - s)))) ⟨h, h.length⟩ := by
 refine hE.fn (body := rb239) rfl ?_
 unfold rb239
 by_cases h2 : (q : Int) = 2
 ·simp [crossV, h2]
 ·have hw : IntKind.i64.wrap (2 - s) = 2 - s := by rcases hs with rfl | rfl <;> rfl
  simp [crossV, h2, hw, rd_at0]
end Go.Proofs.Ytjlkndkedknocaa
namespace Go.Proofs.Ytjlkndkedknocaa
open Go Go.Ai
attribute [local instance] Classical.propDecidable
structure Dg where
 n : Nat
 X : Nat → Nat → Nat
 s : Nat → Int
 L : Int
 T : Nat → Nat → Nat
def crossC (x : Nat → Int) (s : Int) : List Value := [.int .i64 (x 0), .int .i64 (x 1), .int .i64 (x 2), .int .i64 (x 3), .int .i64 s]
def CrossP (h : List O) (a : Option Addr) (n : Nat) (x : Nat → Nat → Int) (s : Nat → Int) : Prop :=
 ∃ b o, (0 < n → a = some ⟨b, o, none⟩) ∧ (∀ i, i < n → rdN h b (o + i * 5) 5 = some (crossC (x i) (s i)))
def tabC (T : Nat → Nat) : List Value := [.int .i64 (T 0), .int .i64 (T 1), .int .i64 (T 2), .int .i64 (T 3)]
def TabP (h : List O) (a : Option Addr) (m : Nat) (T : Nat → Nat → Nat) : Prop :=
 ∃ b o, (0 < m → a = some ⟨b, o, none⟩) ∧ (∀ i, i < m → rdN h b (o + i * 4) 4 = some (tabC (T i)))
theorem CrossP.ext {h h' : List O} {a : Option Addr} {n : Nat} {x : Nat → Nat → Int} {s : Nat → Int} (k : CrossP h a n x s) (e : Ext h h') : CrossP h' a n x s := by
 obtain ⟨b, o, h1, h2⟩ := k; exact ⟨b, o, h1, fun i hi => e.rdN (h2 i hi)⟩
theorem TabP.ext {h h' : List O} {a : Option Addr} {m : Nat} {T : Nat → Nat → Nat} (k : TabP h a m T) (e : Ext h h') : TabP h' a m T := by
 obtain ⟨b, o, h1, h2⟩ := k; exact ⟨b, o, h1, fun i hi => e.rdN (h2 i hi)⟩
def DiagP (h : List O) (p : Nat) (G : Dg) : Prop :=
 ∃ xa xc ta tc el own, h[p]? = some (.cells [.slice xa G.n xc, .int .i64 G.L, .slice ta (2 * G.n) tc] el own) ∧ CrossP h xa G.n (fun i j => G.X i j) G.s ∧ TabP h ta (2 * G.n) G.T
theorem DiagP.ext {h h' : List O} {p : Nat} {G : Dg} (k : DiagP h p G) (e : Ext h h') : DiagP h' p G := by
 obtain ⟨xa, xc, ta, tc, el, own, h1, h2, h3⟩ := k
 refine ⟨xa, xc, ta, tc, el, own, ?_, h2.ext e, h3.ext e⟩
 obtain ⟨l, rfl⟩ := e
 exact app_of h1 l
def oth (G : Dg) (x : Nat × Nat) : Nat × Nat := if G.T (G.X x.1 x.2) 0 = x.1 ∧ G.T (G.X x.1 x.2) 1 = x.2 then (G.T (G.X x.1 x.2) 2, G.T (G.X x.1 x.2) 3) else (G.T (G.X x.1 x.2) 0, G.T (G.X x.1 x.2) 1)
variable {E : Env} (hE : OE E)
include hE
theorem other124 {h : List O} {p : Nat} {G : Dg} (hd : DiagP h p G) {x : Nat × Nat} (hc : x.1 < G.n) (hq : x.2 < 4) (hx : G.X x.1 x.2 < 2 * G.n) :
  DR E 240 [.pointer (some ⟨p, 0, none⟩), endV x] ⟨h, h.length⟩ (.ret (endV (oth G x))) ⟨h, h.length⟩ := by
 refine hE.fn (body := rb240) rfl ?_
 unfold rb240
 obtain ⟨xa, xc, ta, tc, el, own, h1, ⟨xb, xo, h2, h3⟩, ⟨tb, tt, h4, h5⟩⟩ := hd
 obtain rfl := h2 (by omega)
 obtain rfl := h4 (by omega)
 obtain ⟨c, q⟩ := x
 simp only at hc hq hx
 have e1 : ∀ l, rd (h ++ l) p 0 = some (.slice (some ⟨xb, xo, none⟩) G.n xc) := fun l => by rw [rd_def, app_of h1]; rfl
 have e2 : ∀ l, rd (h ++ l) p 2 = some (.slice (some ⟨tb, tt, none⟩) (2 * G.n) tc) := fun l => by rw [rd_def, app_of h1]; rfl
 have e3 : ∀ l, rd (h ++ l) xb (xo + c * 5 + q) = some (.int .i64 (G.X c q)) := fun l => by
  rw [rd_of_rdN (rdN_app (h3 c hc) l) (show q < 5 by omega)]
  match q, hq with
  | 0, _ => rfl
  | 1, _ => rfl
  | 2, _ => rfl
  | 3, _ => rfl
 have e4 : ∀ l, rdN (h ++ l) tb (tt + G.X c q * 4) 4 = some (tabC (G.T (G.X c q))) := fun l => rdN_app (h5 _ hx) l
 have hx' : ((G.X c q : Nat) : Int) < 2 * (G.n : Int) := by omega
 have hq' : (q : Int) < 4 := by omega
 by_cases k1 : G.T (G.X c q) 0 = c <;> by_cases k2 : G.T (G.X c q) 1 = q <;> simp [endV, e1, e2, e3, e4, rd_at, rd_at0, rdN_at, rdN_at0, wrN_at, wrN_at0, hc, hq', hx, hx', tabC, List.append_assoc, bit, oth, eqAggV, back_scalar, Out.scalar, scalar, flat1, flat, k1, k2]
end Go.Proofs.Ytjlkndkedknocaa
namespace Go.Proofs.Ytjlkndkedknocaa
open Go Go.Ai
attribute [local instance] Classical.propDecidable
def InV (G : Dg) (x : Nat × Nat) : Prop := x.1 < G.n ∧ x.2 < 4 ∧ G.X x.1 x.2 < 2 * G.n
def nxt (G : Dg) (x : Nat × Nat) : Nat × Nat := ((oth G x).1, ((oth G x).2 + 3) % 4)
def cells2 (x : Nat × Nat) : List Value := [.int .i64 x.1, .int .i64 x.2]
variable {E : Env} (hE : OE E)
include hE
theorem around132 {G : Dg} {p k pe pd N m : Nat} {xs : Nat → Nat × Nat} (hstep : ∀ i, xs (i + 1) = nxt G (xs i)) (hV : ∀ i, InV G (xs i)) (hO : ∀ i, (oth G (xs i)).2 < 4) (hm : 0 < m) (hmend : xs m = xs 0) (hmid : ∀ i, 0 < i → i < m → xs i ≠ xs 0)
  {I : Nat → List O → Nat → Prop}
  (hdi : ∀ i h f, I i h f → DiagP h p G ∧ h[pe]? = some (.cells (cells2 (xs 0)) 72 (some 0)) ∧ h[pd]? = some (.cells [.pointer (some ⟨p, 0, none⟩)] 190 (some 0)) ∧ (0 < i → f < N))
  (happ : ∀ i h f l, I i h f → I i (h ++ l) f)
  (hset : ∀ (i : Nat) (h : List O) (f b : Nat) (c c' : List Value), I i h f → h[b]? = some (.cells c 72 (some 0)) → N ≤ b → I i (h.set b (.cells c' 72 (some 0))) (min f b))
  (hround : ∀ i h f, i < m → I i h f → DC E (yB + k) [endV (xs i)] ⟨h, h.length⟩ fun o st' => o = .ret (.bool true) ∧ I (i + 1) (joined ⟨h, f⟩ st').h (joined ⟨h, f⟩ st').fl ∧ ∀ (b : Nat) (c : List Value), h[b]? = some (O.cells c 72 (some 0)) → (joined ⟨h, f⟩ st').h[b]? = h[b]?)
  {h : List O} (hi : I 0 h h.length) (hN : N = h.length) (hpe : pe < N) :
  DC E 246 [tok k, .pointer (some ⟨pe, 0, none⟩), .pointer (some ⟨pd, 0, none⟩)] ⟨h, h.length⟩ fun o st' => o = .ret (.tuple #[]) ∧ I m st'.h st'.fl := by
 refine hE.fnC (body := rb246) rfl ?_
 unfold rb246
 obtain ⟨_, hpe0, _, _⟩ := hdi 0 h h.length hi
 simp [rdN_def, hpe0, cells2, rd_at0, rdN_at0, wrN_at0, set_at0]
 refine DW_loop (fun kk fr st => ∃ i h f b, i + kk = m ∧ i < m ∧ st = ⟨h, f⟩ ∧ I i h f ∧ N ≤ b ∧ h[b]? = some (.cells (cells2 (xs i)) 72 (some 0)) ∧ get fr 0 = tok k ∧ get fr 1 = .pointer (some ⟨pe, 0, none⟩) ∧ get fr 2 = .pointer (some ⟨pd, 0, none⟩) ∧ get fr 4 = .pointer (some ⟨b, 0, none⟩)) ?_ (k := m) ?_
 ·rintro kk fr st ⟨i, h1, f1, b, hik, him, rfl, hI, hb, hx, g0, g1, g2, g4⟩
  simp [g0, g4, rdN_def, hx, cells2, tok]
  refine (hround i h1 f1 him hI).imp ?_
  rintro o st' ⟨rfl, hI', hk'⟩
  have hx' := hk' b _ hx
  rw [hx] at hx'
  simp only [callK_ret]
  generalize joined ⟨h1, f1⟩ st' = s1 at hI' hx' ⊢
  obtain ⟨h2, f2⟩ := s1
  simp only at hI' hx' ⊢
  obtain ⟨hd, he, hpd, hf⟩ := hdi _ _ _ hI'
  have hv := hV i
  have hr := other124 hE hd hv.1 hv.2.1 hv.2.2
  have hlt : b < h2.length := (List.getElem?_eq_some_iff.1 hx').1
  have ho := hO i
  have hne : b ≠ pe := by omega
  have hne' : pe ≠ b := by omega
  have hself : ∀ o, (h2.set b o)[b]? = some o := fun o => by rw [List.getElem?_set_self hlt]
  have hpe' : ∀ o, (h2.set b o)[pe]? = some (.cells (cells2 (xs 0)) 72 (some 0)) := fun o => by rw [List.getElem?_set_ne hne]; exact he
  have hw : IntKind.i64.wrap (((oth G (xs i)).2 : Int) + 3) = ((oth G (xs i)).2 : Int) + 3 := by rw [w64_id] <;> omega
  have hmod : (((oth G (xs i)).2 : Int) + 3).tmod 4 = (((oth G (xs i)).2 + 3) % 4 : Nat) := tmod_add _ 3 4
  simp only [endV] at hr
  simp only [cells2] at hx' hpe'
  have hf2 := hf (by omega)
  obtain ⟨q', hq'⟩ : ∃ q', q' = ((oth G (xs i)).2 + 3) % 4 := ⟨_, rfl⟩
  rw [← hq'] at hmod
  have hnx : xs (i + 1) = ((oth G (xs i)).1, q') := by rw [hq']; exact hstep i
  have hI2 := hset _ _ _ b _ [.int .i64 (oth G (xs i)).1, .int .i64 q'] hI' hx' hb
  have hmin : min (min f2 b) b = min f2 b := by omega
  by_cases hend : xs (i + 1) = xs 0
  ·have him' : i + 1 = m := by
    rcases Nat.lt_or_ge (i + 1) m with h | h
    ·exact absurd hend (hmid _ (by omega) h)
    ·omega
   rw [hnx] at hend
   have e1 : (oth G (xs i)).1 = (xs 0).1 := by rw [← hend]
   have e2 : q' = (xs 0).2 := by rw [← hend]
   subst him'
   have hq : ¬ (h.length ≤ min f2 b) := by omega
   simp [g0, g1, g2, g4, rd_def, rdN_def, wrN_def, hx', hpd, cells2, DC_of hr, hself, hw, hmod, hpe', -List.length_append, -List.append_assoc, e1, e2, hmin, endK_ret, back, Out.scalar, scalar, hq]
   rw [e1, e2] at hI2
   exact hI2
  ·have him' : i + 1 ≠ m := fun e => hend (by rw [e]; exact hmend)
   rw [hnx] at hend
   have hcond : ¬ ((oth G (xs i)).1 = (xs 0).1 ∧ q' = (xs 0).2) := fun e => hend (Prod.ext e.1 e.2)
   have hlen : ∀ o, (h2.set b o).length = h2.length := fun o => List.length_set
   have hfin : ∀ (c : List Value), I (i + 1) (h2.set b (.cells [.int .i64 (oth G (xs i)).1, .int .i64 q'] 72 (some 0)) ++ [.cells c 72 (some 0)]) (min (min f2 b) h2.length) := fun c => by
    have h1 := happ _ _ _ [.cells [.int .i64 0, .int .i64 0] 72 (some 0)] hI2
    have h2' := hset _ _ _ h2.length [.int .i64 0, .int .i64 0] c h1 (by rw [← hlen, app_at0]; rfl) (by omega)
    rw [← hlen, set_at0] at h2'
    simpa using h2'
   have hmin2 : min (min f2 b) h2.length = min f2 b := by omega
   have hset2 : ∀ c, (h2.set b c ++ [O.cells [.int .i64 0, .int .i64 0] 72 (some 0)]).set h2.length (.cells [.int .i64 (oth G (xs i)).1, .int .i64 q'] 72 (some 0)) = h2.set b c ++ [.cells [.int .i64 (oth G (xs i)).1, .int .i64 q'] 72 (some 0)] := fun c => by
    rw [← hlen c, set_at0]; rfl
   have hat : ∀ c o, (h2.set b c ++ [o])[h2.length]? = some o := fun c o => by rw [← hlen c, app_at0]; rfl
   have hgo : ∃ k', k' < kk ∧ ∃ i2, i2 + k' = m ∧ i2 < m ∧ i2 = i + 1 := ⟨kk - 1, by omega, i + 1, by omega, by omega, rfl⟩
   obtain ⟨k', hk1, i2, hk2, hk3, rfl⟩ := hgo
   have hfin' := hfin [.int .i64 (oth G (xs i)).1, .int .i64 q']
   by_cases e1 : (oth G (xs i)).1 = (xs 0).1 <;> by_cases e2 : q' = (xs 0).2
   ·exact absurd ⟨e1, e2⟩ hcond
   all_goals
    simp [g0, g1, g2, g4, rd_def, rdN_def, wrN_def, hx', hpd, cells2, DC_of hr, hself, hw, hmod, hpe', -List.length_append, -List.append_assoc, e1, e2, hmin, hlen, hset2, hat]
    refine ⟨k', hk1, i + 1, hk2, hk3, _, _, ⟨rfl, rfl⟩, ?_, h2.length, by omega, ?_, rfl, rfl⟩
    ·simpa [e1, e2] using hfin'
    ·simp [hat, hnx, e1, e2]
 ·refine ⟨0, _, _, h.length, by omega, hm, rfl, ?_, by omega, ?_, ?_, ?_, ?_, ?_⟩
  ·exact happ _ _ _ _ hi
  ·simp [app_at0, cells2]
  all_goals simp
end Go.Proofs.Ytjlkndkedknocaa
namespace Go.Proofs.Ytjlkndkedknocaa
open Go Go.Ai
attribute [local instance] Classical.propDecidable
theorem pigeon : ∀ (N : Nat) (f : Nat → Nat), (∀ i, i ≤ N → f i < N) → ∃ i j, i < j ∧ j ≤ N ∧ f i = f j := by
 intro N
 induction N with
 | zero => intro f h; exact absurd (h 0 (Nat.le_refl _)) (Nat.not_lt_zero _)
 | succ N ih =>
  intro f h
  by_cases hx : ∃ i, i ≤ N ∧ f i = f (N + 1)
  ·obtain ⟨i, h1, h2⟩ := hx
   exact ⟨i, N + 1, by omega, Nat.le_refl _, h2⟩
  ·have hne : ∀ i, i ≤ N → f i ≠ f (N + 1) := fun i hi e => hx ⟨i, hi, e⟩
   have hv := h (N + 1) (Nat.le_refl _)
   obtain ⟨i, j, h1, h2, h3⟩ := ih (fun i => if f i < f (N + 1) then f i else f i - 1) fun i hi => by
    have h1 := h i (by omega)
    have h2 := hne i hi
    split <;> omega
   refine ⟨i, j, h1, by omega, ?_⟩
   have h4 := hne i (by omega)
   have h5 := hne j h2
   split at h3 <;> split at h3 <;> omega
theorem onto (N : Nat) (f : Nat → Nat) (h : ∀ i, i < N → f i < N) (hi : ∀ i j, i < j → j < N → f i ≠ f j) (v : Nat) (hv : v < N) : ∃ i, i < N ∧ f i = v := by
 apply Classical.byContradiction
 intro hx
 have hne : ∀ i, i < N → f i ≠ v := fun i hi e => hx ⟨i, hi, e⟩
 obtain ⟨i, j, h1, h2, h3⟩ := pigeon (N - 1) (fun i => if f i < v then f i else f i - 1) fun i hi' => by
  have h1 := h i (by omega)
  have h2 := hne i (by omega)
  split <;> omega
 have h4 := hne i (by omega)
 have h5 := hne j (by omega)
 refine hi i j h1 (by omega) ?_
 split at h3 <;> split at h3 <;> omega
theorem least {P : Nat → Prop} (h : ∃ m, P m) : ∃ m, P m ∧ ∀ k, k < m → ¬ P k := by
 obtain ⟨m, hm⟩ := h
 induction m using Nat.strongRecOn with
 | ind m ih =>
  by_cases hx : ∃ k, k < m ∧ P k
  ·obtain ⟨k, h1, h2⟩ := hx; exact ih k h1 h2
  ·exact ⟨m, hm, fun k hk hp => hx ⟨k, hk, hp⟩⟩
def outB (s : Int) (q : Nat) : Bool := decide ((q : Int) = 2 ∨ (q : Int) = 2 - s)
structure GoodG (G : Dg) : Prop where
 size : G.n ≤ 200
 loops : 0 ≤ G.L ∧ G.L ≤ 200
 sign : ∀ c, c < G.n → G.s c = 1 ∨ G.s c = -1
 X : ∀ c q, c < G.n → q < 4 → G.X c q < 2 * G.n
 T : ∀ a, a < 2 * G.n → G.T a 0 < G.n ∧ G.T a 1 < 4 ∧ G.T a 2 < G.n ∧ G.T a 3 < 4 ∧ G.X (G.T a 0) (G.T a 1) = a ∧ G.X (G.T a 2) (G.T a 3) = a ∧ ¬ (G.T a 0 = G.T a 2 ∧ G.T a 1 = G.T a 3)
 cover : ∀ c q, c < G.n → q < 4 → (c = G.T (G.X c q) 0 ∧ q = G.T (G.X c q) 1) ∨ (c = G.T (G.X c q) 2 ∧ q = G.T (G.X c q) 3)
 dir : ∀ a, a < 2 * G.n → outB (G.s (G.T a 0)) (G.T a 1) = true ∧ outB (G.s (G.T a 2)) (G.T a 3) = false
variable {G : Dg} (hG : GoodG G)
include hG
theorem GoodG.inV {x : Nat × Nat} (h1 : x.1 < G.n) (h2 : x.2 < 4) : InV G x := ⟨h1, h2, hG.X _ _ h1 h2⟩
theorem oth_spec {x : Nat × Nat} (hx : InV G x) : InV G (oth G x) ∧ oth G (oth G x) = x ∧ G.X (oth G x).1 (oth G x).2 = G.X x.1 x.2 := by
 obtain ⟨h1, h2, h3⟩ := hx
 obtain ⟨t0, t1, t2, t3, x1, x2, hne⟩ := hG.T _ h3
 have hc := hG.cover _ _ h1 h2
 obtain ⟨c, q⟩ := x
 simp only at *
 generalize ha : G.X c q = a at *
 by_cases hb : G.T a 0 = c ∧ G.T a 1 = q
 ·have e : oth G (c, q) = (G.T a 2, G.T a 3) := by simp only [oth, ha]; rw [if_pos hb]
  rw [e]
  refine ⟨hG.inV t2 t3, ?_, x2⟩
  simp only [oth, x2]
  rw [if_neg hne, hb.1, hb.2]
 ·have e : oth G (c, q) = (G.T a 0, G.T a 1) := by simp only [oth, ha]; rw [if_neg hb]
  rw [e]
  refine ⟨hG.inV t0 t1, ?_, x1⟩
  simp only [oth, x1]
  simp only [and_self, if_true]
  rcases hc with hc | hc
  ·exact absurd ⟨hc.1.symm, hc.2.symm⟩ hb
  ·rw [← hc.1, ← hc.2]
theorem nxt_inV {x : Nat × Nat} (hx : InV G x) : InV G (nxt G x) := by
 obtain ⟨h1, _⟩ := oth_spec hG hx
 exact hG.inV h1.1 (Nat.mod_lt _ (by omega))
theorem nxt_inj {x y : Nat × Nat} (hx : InV G x) (hy : InV G y) (h : nxt G x = nxt G y) : x = y := by
 obtain ⟨a1, a2, _⟩ := oth_spec hG hx
 obtain ⟨b1, b2, _⟩ := oth_spec hG hy
 have h' := Prod.ext_iff.1 h
 have e1 : (oth G x).1 = (oth G y).1 := h'.1
 have e2 : ((oth G x).2 + 3) % 4 = ((oth G y).2 + 3) % 4 := h'.2
 have c1 := a1.2.1
 have c2 := b1.2.1
 have e : oth G x = oth G y := Prod.ext e1 (by omega)
 rw [← a2, ← b2, e]
omit hG in
def orb (G : Dg) (e : Nat × Nat) : Nat → Nat × Nat
 | 0 => e
 | i + 1 => nxt G (orb G e i)
theorem orb_inV {e : Nat × Nat} (he : InV G e) : ∀ i, InV G (orb G e i) := by
 intro i
 induction i with
 | zero => exact he
 | succ i ih => exact nxt_inV hG ih
omit hG in
theorem orb_add (e : Nat × Nat) (i j : Nat) : orb G e (i + j) = orb G (orb G e i) j := by
 induction j with
 | zero => rfl
 | succ j ih => rw [← Nat.add_assoc]; simp only [orb, ih]
theorem orb_inj {x y : Nat × Nat} (hx : InV G x) (hy : InV G y) : ∀ i, orb G x i = orb G y i → x = y := by
 intro i
 induction i with
 | zero => exact id
 | succ i ih => intro h; exact ih (nxt_inj hG (orb_inV hG hx i) (orb_inV hG hy i) h)
theorem orb_period {e : Nat × Nat} (he : InV G e) : ∃ m, (0 < m ∧ orb G e m = e ∧ m ≤ 4 * G.n) ∧ ∀ i, 0 < i → i < m → orb G e i ≠ e := by
 have hex : ∃ m, 0 < m ∧ orb G e m = e ∧ m ≤ 4 * G.n := by
  obtain ⟨i, j, h1, h2, h3⟩ := pigeon (4 * G.n) (fun i => 4 * (orb G e i).1 + (orb G e i).2) fun i _ => by
   have := orb_inV hG he i
   have a := this.1
   have b := this.2.1
   omega
  have hi := orb_inV hG he i
  have hj := orb_inV hG he j
  have a := hi.2.1
  have b := hj.2.1
  have heq : orb G e i = orb G e j := Prod.ext (by omega) (by omega)
  refine ⟨j - i, by omega, ?_, by omega⟩
  have e1 : orb G e j = orb G (orb G e (j - i)) i := by rw [← orb_add, Nat.sub_add_cancel (by omega)]
  rw [e1] at heq
  exact (orb_inj hG he (orb_inV hG he _) i heq).symm
 obtain ⟨m, h1, h2⟩ := least hex
 exact ⟨m, h1, fun i h3 h4 e => h2 i h4 ⟨h3, e, by omega⟩⟩
end Go.Proofs.Ytjlkndkedknocaa
namespace Go.Ai
attribute [local instance] Classical.propDecidable
def lookS (shape : List (Option IntKind)) (agg : Bool) (zero : Value) (wok : Bool) (st : St) (x k : Value) : Option (Res × St) := match x with
 | .map (some b) => match st.h[b]? with
  | some (.map es _) => do
   let f ← findK shape agg k es
   let (v, ok) := match f with | some (_, v) => (v, true) | none => (zero, false)
   some (.val (if wok then .tuple #[v, .bool ok] else v), st)
  | _ => none
 | _ => none
theorem step_lookS {shape agg zero x k wok} {e : Operand → Value} {st : St} : step (.lookup shape agg zero x k wok) e st = lookS shape agg zero wok st (e x) (e k) := rfl
def updS (shape : List (Option IntKind)) (agg : Bool) (st : St) (m k v : Value) : Option (Res × St) := match m with
 | .map (some b) => match st.h[b]? with
  | some (.map es clock) => do
   let f ← findK shape agg k es
   let st' : St := match f with
    | some (i, _) => { st with h := st.h.set b (.map (es.modify i fun en => { en with val := v }) clock), fl := min st.fl b }
    | none => { st with h := st.h.set b (.map (es ++ [{ key := k, val := v, born := clock }]) (clock + 1)), fl := min st.fl b }
   some (.val undef, st')
  | _ => none
 | _ => none
theorem step_updS {shape agg m k v} {e : Operand → Value} {st : St} : step (.mapUpd shape agg m k v) e st = updS shape agg st (e m) (e k) (e v) := rfl
section
variable {κ : Type} (kc : κ → List Value)
def entG (y : κ × Value × Nat) : MapEntry := { key := .agg (kc y.1).toArray, val := y.2.1, born := y.2.2 }
noncomputable def atG (k : κ) : List (κ × Value × Nat) → Nat → Option (Nat × Value)
 | [], _ => none
 | y :: l, i => if k = y.1 then some (i, y.2.1) else atG k l (i + 1)
noncomputable def valG (k : κ) : List (κ × Value × Nat) → Option Value
 | [] => none
 | y :: l => if k = y.1 then some y.2.1 else valG k l
noncomputable def updG (k : κ) (v : Value) (b : Nat) : List (κ × Value × Nat) → List (κ × Value × Nat)
 | [] => [(k, v, b)]
 | y :: l => if k = y.1 then (y.1, v, y.2.2) :: l else y :: updG k v b l
theorem atG_val (k : κ) : ∀ (l : List (κ × Value × Nat)) (i : Nat), (atG k l i).map (·.2) = valG k l := by
 intro l
 induction l with
 | nil => intro i; rfl
 | cons y l ih => intro i; simp only [atG, valG]; split <;> simp [ih]
theorem valG_upd (k k' : κ) (v : Value) (b : Nat) : ∀ l : List (κ × Value × Nat), valG k' (updG k v b l) = if k' = k then some v else valG k' l := by
 intro l
 induction l with
 | nil => simp [updG, valG]
 | cons y l ih =>
  simp only [updG]
  by_cases h : k = y.1
  ·simp only [h, if_true, valG]
   by_cases h2 : k' = y.1 <;> simp [h2]
  ·simp only [h, if_false, valG, ih]
   by_cases h2 : k' = y.1
   ·have : ¬ k' = k := fun e => h (e ▸ h2)
    simp [h2]
    intro e; exact absurd e.symm h
   ·simp [h2]
structure KeyOk (shape : List (Option IntKind)) : Prop where
 cells : ∀ a, keyCells shape true (.agg (kc a).toArray) = some (kc a)
 eq : ∀ a b, eqCells (kc a) (kc b) = decide (a = b)
variable {kc} {shape : List (Option IntKind)} (K : KeyOk kc shape)
include K
theorem findE_G (k : κ) : ∀ (l : List (κ × Value × Nat)) (i : Nat), findE (kc k) (l.map (entG kc)) i = atG k l i := by
 intro l
 induction l with
 | nil => intro i; rfl
 | cons y l ih =>
  intro i
  have : eqCells (kc k) ((entG kc y).key.cells.toList) = decide (k = y.1) := K.eq k y.1
  simp only [List.map_cons, findE, this, atG, ih]
  by_cases h : k = y.1 <;> simp [h, entG]
theorem findK_G (k : κ) (l : List (κ × Value × Nat)) : findK shape true (.agg (kc k).toArray) (l.map (entG kc)) = some (atG k l 0) := by
 unfold findK
 rw [K.cells]
 have : keysOk shape true (l.map (entG kc)) = true := by
  unfold keysOk
  rw [List.all_eq_true]
  intro en hen
  obtain ⟨y, _, rfl⟩ := List.mem_map.1 hen
  show (keyCells shape true (.agg (kc y.1).toArray)).isSome = true
  rw [K.cells]; rfl
 simp only [this, if_true, findE_G K]
omit K in
theorem modify_G (k : κ) (v : Value) (b : Nat) : ∀ (l : List (κ × Value × Nat)) (j : Nat), (∀ i w, atG k l j = some (i, w) → j ≤ i ∧ (l.map (entG kc)).modify (i - j) (fun en => { en with val := v }) = (updG k v b l).map (entG kc)) ∧
  (atG k l j = none → l.map (entG kc) ++ [entG kc (k, v, b)] = (updG k v b l).map (entG kc)) := by
 intro l
 induction l with
 | nil => intro j; exact ⟨fun i w h => by simp [atG] at h, fun _ => rfl⟩
 | cons y l ih =>
  intro j
  simp only [atG, updG]
  by_cases h : k = y.1
  ·simp only [h, if_true]
   refine ⟨fun i w e => ?_, fun e => by cases e⟩
   simp only [Option.some.injEq, Prod.mk.injEq] at e
   obtain ⟨rfl, rfl⟩ := e
   refine ⟨Nat.le_refl _, ?_⟩
   simp [entG]
  ·simp only [h, if_false]
   obtain ⟨h1, h2⟩ := ih (j + 1)
   refine ⟨fun i w e => ?_, fun e => by rw [List.map_cons, List.cons_append, h2 e, List.map_cons]⟩
   obtain ⟨a, c⟩ := h1 i w e
   refine ⟨by omega, ?_⟩
   rw [List.map_cons, List.map_cons, ← c, show i - j = (i - (j + 1)) + 1 by omega, List.modify_succ_cons]
omit K in
noncomputable def upS (S : κ → Option Value) (k : κ) (v : Value) : κ → Option Value := fun k' => if k' = k then some v else S k'
omit K in
def MapIs (kc : κ → List Value) (es : List MapEntry) (S : κ → Option Value) : Prop := ∃ l : List (κ × Value × Nat), es = l.map (entG kc) ∧ ∀ k, valG k l = S k
omit K in
theorem MapIs.nil : MapIs kc [] fun _ => none := ⟨[], rfl, fun _ => rfl⟩
theorem MapIs.look {es : List MapEntry} {S : κ → Option Value} (hm : MapIs kc es S) {st : St} {b clock : Nat} (hb : st.h[b]? = some (.map es clock)) (k : κ) (z : Value) (wok : Bool) :
  lookS shape true z wok st (.map (some b)) (.agg (kc k).toArray) = some (.val (if wok then .tuple #[(S k).getD z, .bool (S k).isSome] else (S k).getD z), st) := by
 obtain ⟨l, rfl, hS⟩ := hm
 have hv : (atG k l 0).map (·.2) = S k := by rw [atG_val, hS]
 simp only [lookS, hb, findK_G K, bind, Option.bind_some]
 rw [← hv]
 cases atG k l 0 <;> rfl
theorem MapIs.upd {es : List MapEntry} {S : κ → Option Value} (hm : MapIs kc es S) {h : List O} {f b clock : Nat} (hb : h[b]? = some (.map es clock)) (k : κ) (v : Value) :
  ∃ es' clock', updS shape true ⟨h, f⟩ (.map (some b)) (.agg (kc k).toArray) v = some (.val undef, ⟨h.set b (.map es' clock'), min f b⟩) ∧ MapIs kc es' (upS S k v) := by
 obtain ⟨l, rfl, hS⟩ := hm
 obtain ⟨m1, m2⟩ := modify_G (kc := kc) k v clock l 0
 have hval : ∀ k', valG k' (updG k v clock l) = upS S k v k' := fun k' => by rw [valG_upd, hS]; rfl
 simp only [updS, hb, findK_G K, bind, Option.bind_some]
 cases hat : atG k l 0 with
 | none => exact ⟨_, _, rfl, updG k v clock l, m2 hat, hval⟩
 | some q =>
  obtain ⟨i, w⟩ := q
  obtain ⟨_, h2⟩ := m1 i w hat
  exact ⟨_, _, rfl, updG k v clock l, h2, hval⟩
end
def kcII (x : Nat × Nat) : List Value := [.int .i64 x.1, .int .i64 x.2]
theorem keyII : KeyOk kcII [some .i64, some .i64] := ⟨fun a => rfl, fun a b => by
 simp only [kcII, eqCells_ii]
 rw [Bool.eq_iff_iff]
 simp [Prod.ext_iff]⟩
def kcIB (x : Int × Bool) : List Value := [.int .i64 x.1, .bool x.2]
theorem keyIB : KeyOk kcIB [some .i64, none] := ⟨fun a => rfl, fun a b => by
 simp only [kcIB, eqCells_ib]
 rw [Bool.eq_iff_iff]
 simp [Prod.ext_iff]⟩
end Go.Ai
namespace Go.Ai
def Sub (h h' : List O) : Prop := ∀ (b : Nat) (o : O), h[b]? = some o → h'[b]? = some o
theorem Sub.refl (h : List O) : Sub h h := fun _ _ k => k
theorem Sub.trans {a b c : List O} (h : Sub a b) (k : Sub b c) : Sub a c := fun x o e => k x o (h x o e)
theorem Sub.app {h h' : List O} (k : Sub h h') (l : List O) : Sub h (h' ++ l) := fun b o e => app_of (k b o e) l
theorem Sub.set {h h' : List O} (k : Sub h h') {b : Nat} (hb : h.length ≤ b) (o : O) : Sub h (h'.set b o) := fun c o' e => by
 have : c < h.length := (List.getElem?_eq_some_iff.1 e).1
 rw [List.getElem?_set_ne (by omega)]; exact k c o' e
theorem Sub.len {h h' : List O} (k : Sub h h') : h.length ≤ h'.length := by
 rcases Nat.eq_zero_or_pos h.length with h0 | h0
 ·omega
 ·have := (List.getElem?_eq_some_iff.1 (k (h.length - 1) h[h.length - 1] (by simp [h0]))).1
  omega
theorem Ext.sub {h h' : List O} (k : Ext h h') : Sub h h' := by obtain ⟨l, rfl⟩ := k; exact (Sub.refl h).app l
theorem Sub.rd {h h' : List O} (k : Sub h h') {b i : Nat} {v : Value} (hr : Ai.rd h b i = some v) : Ai.rd h' b i = some v := by
 rw [rd_def] at hr ⊢
 cases hb : h[b]? with
 | none => rw [hb] at hr; simp [rdO] at hr
 | some o => rw [k b o hb, ← hb]; exact hr
theorem Sub.rdN {h h' : List O} (k : Sub h h') {b i n : Nat} {v : List Value} (hr : Ai.rdN h b i n = some v) : Ai.rdN h' b i n = some v := by
 rw [rdN_def] at hr ⊢
 cases hb : h[b]? with
 | none => rw [hb] at hr; simp [rdNO] at hr
 | some o => rw [k b o hb, ← hb]; exact hr
def OwnA (h : List O) (lo : Nat) (v : Value) (k : Nat) (cs : List Value) (el : TypeId) (size : Nat) : Prop :=
 cs.length = k * size ∧ ((v = .slice none 0 0 ∧ k = 0) ∨ ∃ b, v = .slice (some ⟨b, 0, none⟩) k k ∧ lo ≤ b ∧ h[b]? = some (.cells cs el (some size)))
theorem OwnA.nil (h : List O) (lo : Nat) (el : TypeId) (size : Nat) : OwnA h lo (.slice none 0 0) 0 [] el size := ⟨by simp, .inl ⟨rfl, rfl⟩⟩
theorem OwnA.keep {h h' : List O} {lo k : Nat} {v : Value} {cs : List Value} {el : TypeId} {size : Nat} (ho : OwnA h lo v k cs el size) (hk : ∀ b, lo ≤ b → h[b]? = some (.cells cs el (some size)) → h'[b]? = some (.cells cs el (some size))) : OwnA h' lo v k cs el size := by
 refine ⟨ho.1, ?_⟩
 rcases ho.2 with h1 | ⟨b, h1, h2, h3⟩
 ·exact .inl h1
 ·exact .inr ⟨b, h1, h2, hk b h2 h3⟩
theorem OwnA.low {h : List O} {lo lo' k : Nat} {v : Value} {cs : List Value} {el : TypeId} {size : Nat} (ho : OwnA h lo v k cs el size) (hl : lo' ≤ lo) : OwnA h lo' v k cs el size := by
 refine ⟨ho.1, ?_⟩
 rcases ho.2 with h1 | ⟨b, h1, h2, h3⟩
 ·exact .inl h1
 ·exact .inr ⟨b, h1, Nat.le_trans hl h2, h3⟩
theorem append_A {H : List O} {lo k n fl c : Nat} {v : Value} {cs new : List Value} {el : TypeId} {size bytes : Nat} {xb : Option Addr}
  (ho : OwnA H lo v k cs el size) (hx : readSlice H size n xb = some new) (hnew : new.length = n * size) (hone : new.all one1 = true) (hlo : lo ≤ H.length) (hroom : (k + n) * bytes ≤ roomMax) (hn : 0 < n) :
  ∃ v' H' fl', appendV el size bytes v (.slice xb n c) ⟨H, fl⟩ = some (v', ⟨H', fl'⟩) ∧ OwnA H' lo v' (k + n) (cs ++ new) el size ∧ min fl lo ≤ fl' ∧ fl' ≤ fl ∧ H.length ≤ H'.length ∧
   (∀ (b : Nat) (o : O), H[b]? = some o → (b < lo ∨ ∀ c : List Value, o ≠ .cells c el (some size)) → H'[b]? = some o) := by
 obtain ⟨hl, hv⟩ := ho
 rcases hv with ⟨rfl, rfl⟩ | ⟨b, rfl, hb, hcell⟩
 ·refine ⟨.slice (some ⟨H.length, 0, none⟩) (0 + n) (0 + n), H ++ [.cells ([] ++ new) el (some size)], fl, ?_, ⟨?_, .inr ⟨H.length, rfl, hlo, ?_⟩⟩, by omega, Nat.le_refl _, by simp, fun b o e _ => app_of e _⟩
  ·simp only [appendV, hx, bind, Option.bind_some, appendCells]
   rw [if_neg (by omega), if_neg (by omega), if_pos ⟨hroom, hone⟩]
   simp [readSlice, kill]
  ·simp [hl, hnew, Nat.add_mul]
  ·have : cs = [] := by
    have : cs.length = 0 := by simp [hl]
    exact List.length_eq_zero_iff.1 this
   simp [this]
 ·have hread : readSlice H size k (some ⟨b, 0, none⟩) = some cs := by
   simp only [readSlice]
   split
   ·rename_i h0'
    have : cs = [] := List.length_eq_zero_iff.1 (by omega)
    rw [this]
   ·simp [rdN, hcell, hl]
    exact List.take_of_length_le (by omega)
  refine ⟨.slice (some ⟨H.length, 0, none⟩) (k + n) (k + n), (H.set b .dead) ++ [.cells (cs ++ new) el (some size)], min fl b, ?_, ⟨?_, .inr ⟨H.length, rfl, hlo, ?_⟩⟩, by omega, by omega, by simp, fun b' o e hd => ?_⟩
  ·simp only [appendV, hx, bind, Option.bind_some, appendCells]
   rw [if_neg (by omega), if_neg (by omega), if_pos ⟨hroom, hone⟩, hread]
   simp only [kill, hcell, Option.bind_some]
   rw [if_pos (by simp)]
   simp only [Option.bind_some, List.length_set]
  ·simp [hl, hnew, Nat.add_mul]
  ·simp
  ·have hne : b' ≠ b := fun e' => by
    subst e'
    rw [hcell] at e
    obtain rfl := Option.some.inj e
    rcases hd with hd | hd
    ·omega
    ·exact hd cs rfl
   refine app_of ?_ _
   rw [List.getElem?_set_ne (Ne.symm hne)]; exact e
end Go.Ai
namespace Go.Proofs.Ytjlkndkedknocaa
open Go Go.Ai
attribute [local instance] Classical.propDecidable
theorem CrossP.sub {h h' : List O} {a : Option Addr} {n : Nat} {x : Nat → Nat → Int} {s : Nat → Int} (k : CrossP h a n x s) (e : Sub h h') : CrossP h' a n x s := by
 obtain ⟨b, o, h1, h2⟩ := k; exact ⟨b, o, h1, fun i hi => e.rdN (h2 i hi)⟩
theorem TabP.sub {h h' : List O} {a : Option Addr} {m : Nat} {T : Nat → Nat → Nat} (k : TabP h a m T) (e : Sub h h') : TabP h' a m T := by
 obtain ⟨b, o, h1, h2⟩ := k; exact ⟨b, o, h1, fun i hi => e.rdN (h2 i hi)⟩
theorem DiagP.sub {h h' : List O} {p : Nat} {G : Dg} (k : DiagP h p G) (e : Sub h h') : DiagP h' p G := by
 obtain ⟨xa, xc, ta, tc, el, own, h1, h2, h3⟩ := k
 exact ⟨xa, xc, ta, tc, el, own, e _ _ h1, h2.sub e, h3.sub e⟩
variable {E : Env} (hE : OE E)
include hE
theorem around125 {h : List O} {p : Nat} {x : Nat × Nat} : DR E 241 [.pointer (some ⟨p, 0, none⟩), endV x] ⟨h, h.length⟩
  (.ret (.func (.func 246) #[] #[.pointer (some ⟨h.length + 1, 0, none⟩), .pointer (some ⟨h.length, 0, none⟩)])) ⟨h ++ [.cells [.pointer (some ⟨p, 0, none⟩)] 190 (some 0), .cells (cells2 x) 72 (some 0)], h.length⟩ := by
 refine hE.fn (body := rb241) rfl ?_
 unfold rb241
 simp [endV, cells2, back, Out.scalar, scalar, flat1, flat]
end Go.Proofs.Ytjlkndkedknocaa
namespace Go.Ai
theorem turn_eq {b : Bool} {k nt : Nat} {fr : List Value} {ps : List Nat} {ca cb : Code} {h : List O} {f : Nat} (hk : h[k]? = some (.loop b nt fr ps ca cb)) : turn b k ⟨h, f⟩ = some ⟨h.set k (.loop (!b) nt fr ps ca cb), min f k⟩ := by
 simp [turn, hk]
theorem over_eq {k nt : Nat} {fr : List Value} {ps : List Nat} {ca cb : Code} {h : List O} {f : Nat} (hk : h[k]? = some (.loop false nt fr ps ca cb)) : over k ⟨h, f⟩ = some ⟨h.set k .dead, min f k⟩ := by
 simp [over, hk]
theorem set_ne {h : List O} {a b : Nat} {o x : O} (hb : h[b]? = some o) (hn : b ≠ a) : (h.set a x)[b]? = some o := by rw [List.getElem?_set_ne (Ne.symm hn)]; exact hb
theorem set_self {h : List O} {a : Nat} {o x : O} (ha : h[a]? = some o) : (h.set a x)[a]? = some x := List.getElem?_set_self (List.getElem?_eq_some_iff.1 ha).1
end Go.Ai
namespace Go.Proofs.Ytjlkndkedknocaa
open Go Go.Ai
attribute [local instance] Classical.propDecidable
variable {E : Env} (hE : OE E)
include hE
theorem round111 {h : List O} {f k mb pm pr N base i clock : Nat} {frL : Fr} {x : Nat × Nat} {es : List MapEntry} {S : Nat × Nat → Option Value} {vr : Value} {cs : List Value}
  (hk : h[k]? = some (.loop false 46 frL [32] (lcA 219 0) (lcB 219 0))) (g3 : get frL 3 = .pointer (some ⟨pm, 0, none⟩)) (g8 : get frL 8 = .pointer (some ⟨pr, 0, none⟩))
  (hpm : h[pm]? = some (.cells [.map (some mb)] 269 (some 0))) (hmb : h[mb]? = some (.map es clock)) (hM : MapIs kcII es S) (hpr : h[pr]? = some (.cells [vr] 215 (some 0)))
  (hvr : OwnA h N vr i cs 72 2) (hN : N ≤ h.length) (hroom : (i + 1) * 16 ≤ roomMax) (b1 : base ≤ mb) (b2 : base ≤ pr) (b3 : base ≤ k) (b4 : base ≤ N) (b5 : base ≤ f) (b6 : k < N) (b7 : pr < N) :
  DC E (yB + k) [endV x] ⟨h, h.length⟩ fun o st' => o = .ret (.bool true) ∧ ∃ h' f' es' clock' vr', joined ⟨h, f⟩ st' = ⟨h', f'⟩ ∧ base ≤ f' ∧ f' ≤ k ∧ h'[mb]? = some (.map es' clock') ∧ MapIs kcII es' (upS S x (.bool true)) ∧
   h'[pr]? = some (.cells [vr'] 215 (some 0)) ∧ OwnA h' N vr' (i + 1) (cs ++ cells2 x) 72 2 ∧ h.length ≤ h'.length ∧
   ∀ (b : Nat) (o : O), h[b]? = some o → b ≠ mb → b ≠ pr → (b < N ∨ ∀ c : List Value, o ≠ .cells c 72 (some 2)) → h'[b]? = some o := by
 have n1 : k ≠ mb := fun e => by subst e; rw [hk] at hmb; cases hmb
 have n2 : k ≠ pr := fun e => by subst e; rw [hk] at hpr; cases hpr
 have n3 : k ≠ pm := fun e => by subst e; rw [hk] at hpm; cases hpm
 have n4 : pm ≠ mb := fun e => by subst e; rw [hpm] at hmb; cases hmb
 have n5 : pr ≠ mb := fun e => by subst e; rw [hpr] at hmb; cases hmb
 have lk := (List.getElem?_eq_some_iff.1 hk).1
 have lmb := (List.getElem?_eq_some_iff.1 hmb).1
 have lpr := (List.getElem?_eq_some_iff.1 hpr).1
 refine DC_yield (hE.Y k) hk rfl hE.c219_0a hE.c219_0b ?_
 unfold ra219_0
 simp [putAll, endV, wrN_at0, set_at0]
 -- the memory behind the assignment
 obtain ⟨H0, hH0⟩ : ∃ H, H = h ++ [O.cells (cells2 x) 72 (some 0)] := ⟨_, rfl⟩
 have k0 : H0[k]? = some (.loop false 46 frL [32] (lcA 219 0) (lcB 219 0)) := by rw [hH0]; exact app_of hk _
 simp only [cells2] at hH0
 rw [← hH0]
 refine ⟨_, turn_eq k0, ?_⟩
 obtain ⟨H1, hH1⟩ : ∃ H, H = H0.set k (O.loop (!false) 46 frL [32] (lcA 219 0) (lcB 219 0)) := ⟨_, rfl⟩
 have K1 : ∀ (b : Nat) (o : O), h[b]? = some o → b ≠ k → H1[b]? = some o := fun b o hb hn => by rw [hH1]; exact set_ne (by rw [hH0]; exact app_of hb _) hn
 have L1 : H1.length = h.length + 1 := by rw [hH1, hH0]; simp
 have a9 : H1[h.length]? = some (.cells (cells2 x) 72 (some 0)) := by rw [hH1]; exact set_ne (by rw [hH0, app_at0]; rfl) (by omega)
 have kk1 : H1[k]? = some (.loop true 46 frL [32] (lcA 219 0) (lcB 219 0)) := by rw [hH1]; exact set_self k0
 rw [← hH1]
 have p1 := K1 _ _ hpm (Ne.symm n3)
 have m1 := K1 _ _ hmb (Ne.symm n1)
 have r1 := K1 _ _ hpr (Ne.symm n2)
 obtain ⟨es', clock', hupd, hM'⟩ := MapIs.upd keyII hM (f := min h.length k) m1 x (.bool true)
 have hupd' : updS [some .i64, some .i64] true ⟨H1, min h.length k⟩ (.map (some mb)) (.agg #[.int .i64 x.1, .int .i64 x.2]) (.bool true) = _ := hupd
 obtain ⟨H2, hH2⟩ : ∃ H, H = H1.set mb (.map es' clock') := ⟨_, rfl⟩
 rw [← hH2] at hupd'
 have K2 : ∀ (b : Nat) (o : O), H1[b]? = some o → b ≠ mb → H2[b]? = some o := fun b o hb hn => by rw [hH2]; exact set_ne hb hn
 have L2 : H2.length = h.length + 1 := by rw [hH2]; simp [L1]
 have m2 : H2[mb]? = some (.map es' clock') := by rw [hH2]; exact set_self m1
 have a92 := K2 _ _ a9 (by omega)
 have r2 := K2 _ _ r1 n5
 have kk2 := K2 _ _ kk1 n1
 obtain ⟨H3, hH3⟩ : ∃ H, H = H2 ++ [O.cells (cells2 x) 72 (some 0)] := ⟨_, rfl⟩
 have K3 : ∀ (b : Nat) (o : O), H2[b]? = some o → H3[b]? = some o := fun b o hb => by rw [hH3]; exact app_of hb _
 have hvr3 : OwnA H3 N vr i cs 72 2 := hvr.keep fun b hb e => K3 _ _ (K2 _ _ (K1 _ _ e (by omega)) (fun e' => by subst e'; rw [e] at hmb; cases hmb))
 have hread : readSlice H3 2 1 (some ⟨H2.length, 0, none⟩) = some (cells2 x) := by
  rw [hH3]
  simp [readSlice, rdN_at0, cells2]
 have L3 : H3.length = h.length + 2 := by rw [hH3]; simp [L2]
 obtain ⟨v', H4, f4, happ, hown, hf1, hf2, hL4, K4⟩ := append_A (fl := min h.length (min k mb)) (c := 1) (bytes := 16) hvr3 hread (by simp [cells2]) (by simp [cells2]) (by omega) hroom (by omega)
 have hown0 := hown
 obtain ⟨bs, rfl, hbs, hcell⟩ : ∃ bs, v' = .slice (some ⟨bs, 0, none⟩) (i + 1) (i + 1) ∧ N ≤ bs ∧ H4[bs]? = some (.cells (cs ++ cells2 x) 72 (some 2)) := by
  rcases hown.2 with ⟨_, h0⟩ | h1
  ·omega
  ·exact h1
 have r4 := K4 _ _ (K3 _ _ r2) (.inl b7)
 have kk4 := K4 _ _ (K3 _ _ kk2) (.inl b6)
 obtain ⟨H5, hH5⟩ : ∃ H, H = H4.set pr (O.cells [.slice (some ⟨bs, 0, none⟩) (i + 1) (i + 1)] 215 (some 0)) := ⟨_, rfl⟩
 have kk5 : H5[k]? = some (.loop true 46 frL [32] (lcA 219 0) (lcB 219 0)) := by rw [hH5]; exact set_ne kk4 n2
 unfold rl219_0
 simp only [cells2] at a9 a92 hH3
 simp [g3, g8, rd_def, rdN_def, wrN_def, p1, a9, a92, step_updS, hupd', r2, ← hH3, happ, r4, ← hH5, -List.length_append, -List.append_assoc]
 refine ⟨_, turn_eq kk5, ?_⟩
 have hlow : min (min f4 pr) k < h.length := by omega
 refine ⟨H5.set k (.loop (!true) 46 frL [32] (lcA 219 0) (lcB 219 0)), min f (min (min f4 pr) k), by simp only [joined]; rw [if_pos hlow], by omega, by omega, es', ⟨clock', ?_⟩, hM', .slice (some ⟨bs, 0, none⟩) (i + 1) (i + 1), ?_, ?_, ?_, fun b o hb h1 h2 h3 => ?_⟩
 ·refine set_ne ?_ (Ne.symm n1)
  rw [hH5]
  exact set_ne (K4 _ _ (K3 _ _ m2) (.inr fun c e => by cases e)) (Ne.symm n5)
 ·refine set_ne ?_ (Ne.symm n2)
  rw [hH5]
  exact set_self r4
 ·refine hown0.keep fun b hb e => set_ne ?_ (by omega)
  rw [hH5]
  exact set_ne e (by omega)
 ·rw [List.length_set, hH5, List.length_set]; omega
 ·by_cases hbk : b = k
  ·subst hbk
   rw [hk] at hb
   obtain rfl := Option.some.inj hb
   exact set_self kk5
  ·refine set_ne ?_ hbk
   rw [hH5]
   exact set_ne (K4 _ _ (K3 _ _ (K2 _ _ (K1 _ _ hb hbk) h1)) h3) h2
end Go.Proofs.Ytjlkndkedknocaa
namespace Go.Proofs.Ytjlkndkedknocaa
open Go Go.Ai
attribute [local instance] Classical.propDecidable
noncomputable def per (G : Dg) (e : Nat × Nat) : Nat := if h : ∃ m, (0 < m ∧ orb G e m = e ∧ m ≤ 4 * G.n) ∧ ∀ i, 0 < i → i < m → orb G e i ≠ e then h.choose else 1
theorem per_spec {G : Dg} (hG : GoodG G) {e : Nat × Nat} (he : InV G e) : (0 < per G e ∧ orb G e (per G e) = e ∧ per G e ≤ 4 * G.n) ∧ ∀ i, 0 < i → i < per G e → orb G e i ≠ e := by
 have h := orb_period hG he
 unfold per
 rw [dif_pos h]
 exact h.choose_spec
def orbN (G : Dg) (e : Nat × Nat) (i : Nat) : List (Nat × Nat) := (List.range i).map (orb G e)
noncomputable def orbL (G : Dg) (e : Nat × Nat) : List (Nat × Nat) := orbN G e (per G e)
theorem orbN_succ (G : Dg) (e : Nat × Nat) (i : Nat) : orbN G e (i + 1) = orbN G e i ++ [orb G e i] := by simp [orbN, List.range_succ]
theorem orbN_length (G : Dg) (e : Nat × Nat) (i : Nat) : (orbN G e i).length = i := by simp [orbN]
def cellsL (l : List (Nat × Nat)) : List Value := l.flatMap cells2
theorem cellsL_app (l : List (Nat × Nat)) (x : Nat × Nat) : cellsL (l ++ [x]) = cellsL l ++ cells2 x := by simp [cellsL]
noncomputable def metS (l : List (Nat × Nat)) : Nat × Nat → Option Value := fun x => if x ∈ l then some (.bool true) else none
theorem metS_app (l : List (Nat × Nat)) (x : Nat × Nat) : upS (metS l) x (.bool true) = metS (l ++ [x]) := by
 funext y
 simp only [upS, metS, List.mem_append, List.mem_singleton]
 by_cases h : y = x
 ·simp [h]
 ·simp [h]
variable {E : Env} (hE : OE E)
include hE
theorem rangeR {G : Dg} (hG : GoodG G) {h0 h : List O} {p pm mb pr pe pd clock : Nat} {fr : Fr} {e : Nat × Nat} {es : List MapEntry} {l : List (Nat × Nat)} {Q : Post}
  (hd : DiagP h0 p G) (hs : Sub h0 h) (he : InV G e)
  (g31 : get fr 31 = .func (.func 246) #[] #[.pointer (some ⟨pe, 0, none⟩), .pointer (some ⟨pd, 0, none⟩)]) (g3 : get fr 3 = .pointer (some ⟨pm, 0, none⟩)) (g8 : get fr 8 = .pointer (some ⟨pr, 0, none⟩))
  (hpe : h[pe]? = some (.cells (cells2 e) 72 (some 0))) (hpd : h[pd]? = some (.cells [.pointer (some ⟨p, 0, none⟩)] 190 (some 0)))
  (hpm : h[pm]? = some (.cells [.map (some mb)] 269 (some 0))) (hmb : h[mb]? = some (.map es clock)) (hM : MapIs kcII es (metS l)) (hpr : h[pr]? = some (.cells [.slice none 0 0] 215 (some 0)))
  (b1 : h0.length ≤ mb) (b2 : h0.length ≤ pr)
  (hQ : ∀ h' es' clock' vr, h.length ≤ h'.length → (∀ (b : Nat) (o : O), h[b]? = some o → b ≠ mb → b ≠ pr → h'[b]? = some o) → h'[mb]? = some (.map es' clock') → MapIs kcII es' (metS (l ++ orbL G e)) →
   h'[pr]? = some (.cells [vr] 215 (some 0)) → OwnA h' h.length vr (orbL G e).length (cellsL (orbL G e)) 72 2 → Q .normal fr ⟨h', h0.length⟩) :
  DW E (.rangeF (.tmp 31) [32] 46 (lcA 219 0) (lcB 219 0)) fr ⟨h, h0.length⟩ Q := by
 obtain ⟨⟨hm, hmend, hm4⟩, hmid⟩ := per_spec hG he
 have hsz := hG.size
 have hsl := hs.len
 have lpe := (List.getElem?_eq_some_iff.1 hpe).1
 have lpr := (List.getElem?_eq_some_iff.1 hpr).1
 have lmb := (List.getElem?_eq_some_iff.1 hmb).1
 have n1 : pe ≠ mb := fun e => by subst e; rw [hpe] at hmb; cases hmb
 have n2 : pe ≠ pr := fun e => by subst e; rw [hpe] at hpr; cases hpr
 have n3 : pd ≠ mb := fun e => by subst e; rw [hpd] at hmb; cases hmb
 have n4 : pd ≠ pr := fun e => by subst e; rw [hpd] at hpr; cases hpr
 have n5 : pm ≠ mb := fun e => by subst e; rw [hpm] at hmb; cases hmb
 have n6 : pm ≠ pr := fun e => by subst e; rw [hpm] at hpr; cases hpr
 refine DW_rangeF (f := 246) (vs := [tok h.length, .pointer (some ⟨pe, 0, none⟩), .pointer (some ⟨pd, 0, none⟩)]) ?_ (by decide) ?_
 ·simp [g31]
 obtain ⟨hK, hhK⟩ : ∃ H, H = h ++ [O.loop false 46 fr [32] (lcA 219 0) (lcB 219 0)] := ⟨_, rfl⟩
 have lK : hK.length = h.length + 1 := by rw [hhK]; simp
 have KK : ∀ (b : Nat) (o : O), h[b]? = some o → hK[b]? = some o := fun b o hb => by rw [hhK]; exact app_of hb _
 have kk : hK[h.length]? = some (.loop false 46 fr [32] (lcA 219 0) (lcB 219 0)) := by rw [hhK, app_at0]; rfl
 rw [← hhK, ← lK]
 have key := around132 hE (G := G) (p := p) (k := h.length) (pe := pe) (pd := pd) (N := hK.length) (m := per G e) (xs := orb G e) (fun _ => rfl) (orb_inV hG he) (fun i => (oth_spec hG (orb_inV hG he i)).1.2.1) hm hmend hmid
  (I := fun i h' f' => h0.length ≤ f' ∧ (0 < i → f' < hK.length) ∧ hK.length ≤ h'.length ∧ (∀ (b : Nat) (o : O), hK[b]? = some o → b ≠ mb → b ≠ pr → h'[b]? = some o) ∧
   (∃ es' clock', h'[mb]? = some (.map es' clock') ∧ MapIs kcII es' (metS (l ++ orbN G e i))) ∧ ∃ vr, h'[pr]? = some (.cells [vr] 215 (some 0)) ∧ OwnA h' hK.length vr i (cellsL (orbN G e i)) 72 2)
  ?_ ?_ ?_ ?_ (h := hK) ?_ rfl (by omega)
 ·refine key.imp ?_
  rintro o ⟨h', f'⟩ ⟨rfl, i1, i2, i3, i4, ⟨es', clock', i5, i6⟩, vr, i7, i8⟩
  simp only at i1 i2 i3 i4 i5 i7 i8
  have hf := i2 hm
  have hj : joined ⟨hK, h0.length⟩ ⟨h', f'⟩ = ⟨h', h0.length⟩ := by
   simp only [joined]
   rw [if_pos hf, Nat.min_eq_left i1]
  refine ⟨⟨_, rfl⟩, ⟨h'.set h.length .dead, h0.length⟩, ?_, ?_⟩
  ·rw [hj, over_eq (i4 _ _ kk (fun e => by rw [e] at kk; rw [KK _ _ hmb] at kk; cases kk) (fun e => by rw [e] at kk; rw [KK _ _ hpr] at kk; cases kk)), Nat.min_eq_left hsl]
  ·refine hQ (h'.set h.length .dead) es' clock' vr (by simp; omega) (fun b o hb h1 h2 => ?_) ?_ i6 ?_ ?_
   ·have := (List.getElem?_eq_some_iff.1 hb).1
    exact set_ne (i4 _ _ (KK _ _ hb) h1 h2) (by omega)
   ·exact set_ne i5 (by omega)
   ·exact set_ne i7 (by omega)
   ·have := i8.keep (h' := h'.set h.length .dead) fun b hb e => set_ne e (by omega)
    rw [show (orbL G e).length = per G e from orbN_length _ _ _]
    exact this.low (by omega)
 ·rintro i h' f' ⟨i1, i2, i3, i4, _⟩
  refine ⟨hd.sub fun b o hb => i4 _ _ (KK _ _ (hs b o hb)) ?_ ?_, i4 _ _ (KK _ _ hpe) n1 n2, i4 _ _ (KK _ _ hpd) n3 n4, i2⟩
  ·have := (List.getElem?_eq_some_iff.1 hb).1; omega
  ·have := (List.getElem?_eq_some_iff.1 hb).1; omega
 ·rintro i h' f' l' ⟨i1, i2, i3, i4, ⟨es', clock', i5, i6⟩, vr, i7, i8⟩
  exact ⟨i1, i2, by simp; omega, fun b o hb h1 h2 => app_of (i4 b o hb h1 h2) _, ⟨es', clock', app_of i5 _, i6⟩, vr, app_of i7 _, i8.keep fun b hb e => app_of e _⟩
 ·rintro i h' f' b c c' ⟨i1, i2, i3, i4, ⟨es', clock', i5, i6⟩, vr, i7, i8⟩ hb hNb
  refine ⟨by omega, fun h => by have := i2 h; omega, by simp; omega, fun b' o hb' h1 h2 => ?_, ⟨es', clock', set_ne i5 (by omega), i6⟩, vr, set_ne i7 (by omega), i8.keep fun b' hb' e => set_ne e fun e' => ?_⟩
  ·have := (List.getElem?_eq_some_iff.1 hb').1
   exact set_ne (i4 b' o hb' h1 h2) (by omega)
  ·subst e'
   rw [hb] at e
   cases e
 ·rintro i h' f' him ⟨i1, i2, i3, i4, ⟨es', clock', i5, i6⟩, vr, i7, i8⟩
  have hk' := i4 _ _ kk (fun e => by rw [e] at kk; rw [KK _ _ hmb] at kk; cases kk) (fun e => by rw [e] at kk; rw [KK _ _ hpr] at kk; cases kk)
  have hround := round111 hE (h := h') (f := f') (k := h.length) (N := hK.length) (base := h0.length) (x := orb G e i) hk' g3 g8 (i4 _ _ (KK _ _ hpm) n5 n6) i5 i6 i7 i8 i3 (by simp only [roomMax]; omega) b1 b2 hsl (by omega) i1 (by omega) (by omega)
  refine hround.imp ?_
  rintro o st' ⟨rfl, h2, f2, es2, clock2, vr2, hj, j1, j2, j3, j4, j5, j6, j7, j8⟩
  rw [hj]
  refine ⟨rfl, ⟨j1, fun _ => by simp only; omega, by simp only; omega, fun b o hb h1 h2 => ?_, ⟨es2, clock2, j3, ?_⟩, vr2, j5, ?_⟩, fun b c hb => ?_⟩
  ·exact j8 _ _ (i4 b o hb h1 h2) h1 h2 (.inl (List.getElem?_eq_some_iff.1 hb).1)
  ·rw [orbN_succ, ← List.append_assoc, ← metS_app]; exact j4
  ·rw [orbN_succ, cellsL_app]; exact j6
  ·rw [j8 b _ hb ?_ ?_ (.inr fun c e => by cases e), hb]
   ·intro e; subst e; rw [hb] at i5; cases i5
   ·intro e; subst e; rw [hb] at i7; cases i7
 ·exact ⟨by omega, fun h => absurd h (Nat.lt_irrefl _), Nat.le_refl _, fun b o hb _ _ => hb, ⟨es, clock, KK _ _ hmb, by simpa [orbN] using hM⟩, _, KK _ _ hpr, OwnA.nil _ _ _ _⟩
end Go.Proofs.Ytjlkndkedknocaa
namespace Go.Proofs.Ytjlkndkedknocaa
open Go Go.Ai
attribute [local instance] Classical.propDecidable
def endOf (j : Nat) : Nat × Nat := (j / 4, j % 4)
noncomputable def vis (G : Dg) : Nat → List (Nat × Nat) × List (List (Nat × Nat))
 | 0 => ([], [])
 | j + 1 => if endOf j ∈ (vis G j).1 then vis G j else ((vis G j).1 ++ orbL G (endOf j), (vis G j).2 ++ [orbL G (endOf j)])
theorem vis_len (G : Dg) : ∀ j, (vis G j).2.length ≤ j := by
 intro j
 induction j with
 | zero => simp [vis]
 | succ j ih =>
  simp only [vis]
  by_cases hx : endOf j ∈ (vis G j).1
  ·rw [if_pos hx]; omega
  ·rw [if_neg hx]; simp; omega
def RegsP (h : List O) (lo : Nat) (v : Value) (L : List (List (Nat × Nat))) : Prop :=
 ∃ vs, OwnA h lo v L.length vs 215 1 ∧ ∀ (i : Nat) r, L[i]? = some r → ∃ v', vs[i]? = some v' ∧ OwnA h lo v' r.length (cellsL r) 72 2
theorem RegsP.keep {h h' : List O} {lo : Nat} {v : Value} {L : List (List (Nat × Nat))} (k : RegsP h lo v L) (hk : ∀ (b : Nat) (o : O), h[b]? = some o → ((∃ c, o = .cells c 215 (some 1)) ∨ ∃ c, o = .cells c 72 (some 2)) → h'[b]? = some o) : RegsP h' lo v L := by
 obtain ⟨vs, h1, h2⟩ := k
 refine ⟨vs, h1.keep fun b _ e => hk b _ e (.inl ⟨_, rfl⟩), fun i r hr => ?_⟩
 obtain ⟨v', h3, h4⟩ := h2 i r hr
 exact ⟨v', h3, h4.keep fun b _ e => hk b _ e (.inr ⟨_, rfl⟩)⟩
structure RInv (h0 : List O) (G : Dg) (pm mb j : Nat) (h : List O) (vL : Value) : Prop where
 sub : Sub h0 h
 lpm : h0.length ≤ pm
 lmb : h0.length ≤ mb
 pm : h[pm]? = some (.cells [.map (some mb)] 269 (some 0))
 mb : ∃ es clock, h[mb]? = some (.map es clock) ∧ MapIs kcII es (metS (vis G j).1)
 regs : RegsP h h0.length vL (vis G j).2
variable {E : Env} (hE : OE E)
include hE
theorem regions111 {G : Dg} (hG : GoodG G) {h0 : List O} {p : Nat} (hd : DiagP h0 p G) :
  DC E 219 [.pointer (some ⟨p, 0, none⟩)] ⟨h0, h0.length⟩ fun o st' => ∃ v, o = .ret v ∧ h0.length ≤ st'.fl ∧ Sub h0 st'.h ∧ RegsP st'.h h0.length v (vis G (4 * G.n)).2 := by
 refine hE.fnC (body := rb219) rfl ?_
 unfold rb219
 have hd0 := hd
 obtain ⟨xa, xc, ta, tc, el, own, hp0, _, _⟩ := hd0
 have hsz := hG.size
 have hp1 : ∀ l, (h0 ++ l)[p]? = _ := fun l => app_of hp0 l
 simp [rd_def, hp1, wrN_at, set_at, List.append_assoc]
 refine DW_loop (fun kk fr st => ∃ (i : Nat) (h : List O) (vL : Value), i + kk = G.n ∧ st = ⟨h, h0.length⟩ ∧ RInv h0 G (h0.length + 1) h0.length (4 * i) h vL ∧ get fr 0 = .pointer (some ⟨p, 0, none⟩) ∧ get fr 3 = .pointer (some ⟨h0.length + 1, 0, none⟩) ∧ get fr 4 = vL ∧ get fr 16 = .int .i64 G.n ∧ get fr 17 = .int .i64 i) ?_ (k := G.n) ?_
 ·rintro kk fr st ⟨i, h, vL, hik, rfl, hI, g0, g3, g4, g16, g17⟩
  by_cases hi : i < G.n
  ·simp [g0, g3, g4, g16, g17, hi]
   refine DW_loop (fun kk' fr st => ∃ (q : Nat) (h : List O) (vL : Value), q + kk' = 4 ∧ st = ⟨h, h0.length⟩ ∧ RInv h0 G (h0.length + 1) h0.length (4 * i + q) h vL ∧ get fr 0 = .pointer (some ⟨p, 0, none⟩) ∧ get fr 3 = .pointer (some ⟨h0.length + 1, 0, none⟩) ∧ get fr 4 = vL ∧ get fr 5 = .int .i64 i ∧ get fr 16 = .int .i64 G.n ∧ get fr 17 = .int .i64 i ∧ get fr 20 = .int .i64 q) ?_ (k := 4) ?_
   ·clear hI g0 g3 g4 g16 g17
    rintro kk' fr st ⟨q, h, vL, hqk, rfl, hI, g0, g3, g4, g5, g16, g17, g20⟩
    by_cases hq : q < 4
    ·have hq' : (q : Int) < 4 := by omega
     obtain ⟨es, clock, hmb, hM⟩ := hI.mb
     have hsl := hI.sub.len
     have hpm1 : ∀ l, (h ++ l)[h0.length + 1]? = _ := fun l => app_of hI.pm l
     have hmb1 : ∀ l, (h ++ l)[h0.length]? = _ := fun l => app_of hmb l
     have hlook := MapIs.look keyII hM (st := ⟨h ++ [.cells [.int .i64 i, .int .i64 q] 72 (some 0)], h0.length⟩) (hmb1 _) (i, q) (.bool false) false
     have hend : endOf (4 * i + q) = (i, q) := by unfold endOf; rw [Prod.mk.injEq]; omega
     have hw : IntKind.i64.wrap ((q : Int) + 1) = (q : Int) + 1 := by rw [w64_id] <;> omega
     have hmin : min h0.length h.length = h0.length := by omega
     have hj : ∀ X a b, joined ⟨h ++ [a, b], h0.length⟩ ⟨X, h.length + 2⟩ = ⟨X, h0.length⟩ := fun X a b => by simp [joined]
     by_cases hmet : (i, q) ∈ (vis G (4 * i + q)).1
     ·have hlook' : lookS [some .i64, some .i64] true (.bool false) false ⟨h ++ [.cells [.int .i64 i, .int .i64 q] 72 (some 0)], h0.length⟩ (.map (some h0.length)) (.agg #[.int .i64 i, .int .i64 q]) = some (.val (.bool true), ⟨h ++ [.cells [.int .i64 i, .int .i64 q] 72 (some 0)], h0.length⟩) := by
       refine hlook.trans ?_
       simp [metS, hmet]
      simp [g0, g3, g4, g5, g16, g17, g20, hq', rd_def, rdN_def, wrN_at0, set_at0, app_at0, hpm1, step_lookS, hmin, hlook', hw]
      refine ⟨kk' - 1, by omega, q + 1, by omega, vL, ?_, rfl, by omega⟩
      have : vis G (4 * i + (q + 1)) = vis G (4 * i + q) := by
       rw [← Nat.add_assoc]; simp only [vis]; rw [hend, if_pos hmet]
      exact ⟨hI.sub.app _, hI.lpm, hI.lmb, app_of hI.pm _, by rw [this]; exact ⟨es, clock, app_of hmb _, hM⟩, by rw [this]; exact hI.regs.keep fun b o hb _ => app_of hb _⟩
     ·have hlook' : lookS [some .i64, some .i64] true (.bool false) false ⟨h ++ [.cells [.int .i64 i, .int .i64 q] 72 (some 0)], h0.length⟩ (.map (some h0.length)) (.agg #[.int .i64 i, .int .i64 q]) = some (.val (.bool false), ⟨h ++ [.cells [.int .i64 i, .int .i64 q] 72 (some 0)], h0.length⟩) := by
       refine hlook.trans ?_
       simp [metS, hmet]
      have h125 := around125 hE (h := h ++ [.cells [.int .i64 i, .int .i64 q] 72 (some 0), .cells [.slice none 0 0] 215 (some 0)]) (p := p) (x := (i, q))
      simp [endV, cells2, List.append_assoc] at h125
      simp [g0, g3, g4, g5, g16, g17, g20, hq', rd_def, rdN_def, wrN_at0, set_at0, app_at0, app_at, hpm1, step_lookS, hmin, hlook', DC_of h125, hj, List.append_assoc]
      refine rangeR hE hG (pm := h0.length + 1) (mb := h0.length) (pr := h.length + 1) (pe := h.length + 3) (pd := h.length + 2) (e := (i, q)) (es := es) (clock := clock) (l := (vis G (4 * i + q)).1) hd (hI.sub.app _) (hG.inV hi hq) (by simp) (by simp [g3]) (by simp) (by simp [app_at, cells2]) (by simp [app_at]) (app_of hI.pm _) (app_of hmb _) hM (by simp [app_at]) (Nat.le_refl _) (by omega) ?_
      intro h' es' clock' vr hl hk hmb' hM' hpr' hvr
      obtain ⟨vs, hvs, hrs⟩ := hI.regs
      have hkeep : ∀ (b : Nat) (o : O), h[b]? = some o → b ≠ h0.length → h'[b]? = some o := fun b o hb hn => hk b o (app_of hb _) hn (by have := (List.getElem?_eq_some_iff.1 hb).1; omega)
      obtain ⟨va, vn, vc, rfl⟩ : ∃ a n c, vr = .slice a n c := by
       rcases hvr.2 with ⟨h1, _⟩ | ⟨b, h1, _⟩
       ·exact ⟨_, _, _, h1⟩
       ·exact ⟨_, _, _, h1⟩
      have hvs' : OwnA (h' ++ [.cells [.slice va vn vc] 215 (some 0)]) h0.length vL (vis G (4 * i + q)).2.length vs 215 1 := hvs.keep fun b hb e => app_of (hkeep b _ e (fun e' => by rw [e'] at e; rw [e] at hmb; cases hmb)) _
      have hread : readSlice (h' ++ [.cells [.slice va vn vc] 215 (some 0)]) 1 1 (some ⟨h'.length, 0, none⟩) = some [.slice va vn vc] := by simp [readSlice, rdN_at0]
      have hvl := vis_len G (4 * i + q)
      have hh' : h.length ≤ h'.length := by simp at hl; omega
      obtain ⟨v', H4, f4, happ, hown, hf1, hf2, hL4, K4⟩ := append_A (fl := h0.length) (c := 1) (bytes := 24) hvs' hread (by simp) (by simp) (by simp; omega) (by simp only [roomMax]; omega) (by omega)
      obtain rfl : f4 = h0.length := by omega
      simp [g0, g3, g4, g5, g16, g17, g20, rd_def, hpr', happ, hw]
      have hv1 : vis G (4 * i + (q + 1)) = ((vis G (4 * i + q)).1 ++ orbL G (i, q), (vis G (4 * i + q)).2 ++ [orbL G (i, q)]) := by
       rw [← Nat.add_assoc]; simp only [vis]; rw [hend, if_neg hmet]
      refine ⟨kk' - 1, by omega, q + 1, by omega, v', ⟨fun b o hb => ?_, hI.lpm, hI.lmb, ?_, ?_, ?_⟩, rfl, by omega⟩
      ·have hb0 := (List.getElem?_eq_some_iff.1 hb).1
       exact K4 b o (app_of (hkeep b o (hI.sub b o hb) (by omega)) _) (.inl hb0)
      ·exact K4 _ _ (app_of (hkeep _ _ hI.pm (by omega)) _) (.inr fun c e => by cases e)
      ·rw [hv1]
       exact ⟨es', clock', K4 _ _ (app_of hmb' _) (.inr fun c e => by cases e), hM'⟩
      ·rw [hv1]
       refine ⟨vs ++ [.slice va vn vc], by simpa using hown, fun i' r hr => ?_⟩
       have hlen : vs.length = (vis G (4 * i + q)).2.length := by have := hvs.1; omega
       have hK : ∀ (b : Nat) (c : List Value), h'[b]? = some (.cells c 72 (some 2)) → H4[b]? = some (.cells c 72 (some 2)) := fun b c e => K4 _ _ (app_of e _) (.inr fun c' e' => by cases e')
       by_cases hi' : i' < (vis G (4 * i + q)).2.length
       ·rw [List.getElem?_append_left hi'] at hr
        obtain ⟨w, h1, h2⟩ := hrs i' r hr
        refine ⟨w, by rw [List.getElem?_append_left (by omega)]; exact h1, h2.keep fun b hb e => hK b _ (hkeep b _ e (fun e' => by rw [e'] at e; rw [e] at hmb; cases hmb))⟩
       ·rw [List.getElem?_append_right (by omega)] at hr
        have hi0 : i' - (vis G (4 * i + q)).2.length = 0 := by
         have := (List.getElem?_eq_some_iff.1 hr).1
         simp at this
         omega
        rw [hi0] at hr
        simp at hr
        subst hr
        refine ⟨.slice va vn vc, by rw [List.getElem?_append_right (by omega), hlen, hi0]; rfl, (hvr.keep fun b _ e => hK b _ e).low (by simp; omega)⟩
    ·have hq' : ¬ (q : Int) < 4 := by omega
     have hq4 : q = 4 := by omega
     subst hq4
     have hw : IntKind.i64.wrap ((i : Int) + 1) = (i : Int) + 1 := by rw [w64_id] <;> omega
     simp [g0, g3, g4, g5, g16, g17, g20, hw]
     exact ⟨kk - 1, by omega, i + 1, by omega, vL, hI, rfl, by omega⟩
   ·exact ⟨0, h, vL, by omega, rfl, hI, by simp [g0, g3, g4, g16, g17]⟩
  ·have : i = G.n := by omega
   subst this
   simp [g0, g3, g4, g16, g17, endK_ret]
   obtain ⟨vs, hvs, hrs⟩ := hI.regs
   unfold pairQ back
   rcases hvs.2 with ⟨h1, h2⟩ | ⟨b, h1, h2, h3⟩
   ·have hL : (vis G (4 * G.n)).2 = [] := List.length_eq_zero_iff.1 h2
    rw [h1, hL]
    rw [if_pos (by simp [Out.scalar, scalar, flat1, flat])]
    exact ⟨_, rfl, Nat.le_refl _, Sub.refl _, [], OwnA.nil _ _ _ _, fun i r h => by simp at h⟩
   ·rw [h1]
    rw [if_neg (by simp [Out.scalar, scalar, flat1, flat])]
    exact ⟨_, rfl, Nat.le_refl _, hI.sub, vs, h1 ▸ hvs, hrs⟩
 ·refine ⟨0, _, .slice none 0 0, by omega, rfl, ⟨(Sub.refl h0).app _, by omega, by omega, by simp [app_at], ⟨[], 0, by simp [app_at0], ?_⟩, ?_⟩, by simp⟩
  ·exact MapIs.nil
  ·exact ⟨[], OwnA.nil _ _ _ _, fun i r h => by simp [vis] at h⟩
end Go.Proofs.Ytjlkndkedknocaa
namespace Go.Proofs.Ytjlkndkedknocaa
open Go Go.Ai
attribute [local instance] Classical.propDecidable
def use (x : Nat → Nat → Int) (s : Nat → Int) (j : Nat) : Int × Bool := (x (j / 4) (j % 4), outB (s (j / 4)) (j % 4))
structure Snd (n : Nat) (x : Nat → Nat → Int) (s : Nat → Int) (L : Int) : Prop where
 size : n ≤ 200
 loops : 0 ≤ L ∧ L ≤ 200
 sign : ∀ c, c < n → s c = 1 ∨ s c = -1
 range : ∀ j, j < 4 * n → 0 ≤ (use x s j).1 ∧ (use x s j).1 < 2 * n
 dist : ∀ j j', j < j' → j' < 4 * n → use x s j ≠ use x s j'
variable {n : Nat} {x : Nat → Nat → Int} {s : Nat → Int} {L : Int}
theorem Snd.onto (h : Snd n x s L) {a : Nat} (ha : a < 2 * n) (b : Bool) : ∃ j, j < 4 * n ∧ use x s j = ((a : Int), b) := by
 obtain ⟨j, h1, h2⟩ := Ytjlkndkedknocaa.onto (4 * n) (fun j => 2 * (use x s j).1.toNat + (if (use x s j).2 then 1 else 0)) (fun j hj => by
  have := h.range j hj
  split <;> omega) (fun i j hij hj e => by
  have h1 := h.range i (by omega)
  have h2 := h.range j hj
  refine h.dist i j hij hj ?_
  have e' : 2 * (use x s i).1.toNat + (if (use x s i).2 then 1 else 0) = 2 * (use x s j).1.toNat + (if (use x s j).2 then 1 else 0) := e
  refine Prod.ext ?_ ?_
  ·split at e' <;> split at e' <;> omega
  ·cases hb1 : (use x s i).2 <;> cases hb2 : (use x s j).2 <;> simp [hb1, hb2] at e' ⊢ <;> omega) (2 * a + (if b then 1 else 0)) (by split <;> omega)
 refine ⟨j, h1, ?_⟩
 have hr := h.range j h1
 have h2' : 2 * (use x s j).1.toNat + (if (use x s j).2 then 1 else 0) = 2 * a + (if b then 1 else 0) := h2
 refine Prod.ext ?_ ?_
 ·show (use x s j).1 = (a : Int)
  split at h2' <;> split at h2' <;> omega
 ·cases hb1 : (use x s j).2 <;> cases b <;> simp [hb1] at h2' ⊢ <;> omega
noncomputable def idxU (n : Nat) (x : Nat → Nat → Int) (s : Nat → Int) (a : Nat) (b : Bool) : Nat := if h : ∃ j, j < 4 * n ∧ use x s j = ((a : Int), b) then h.choose else 0
theorem idxU_spec (h : Snd n x s L) {a : Nat} (ha : a < 2 * n) (b : Bool) : idxU n x s a b < 4 * n ∧ use x s (idxU n x s a b) = ((a : Int), b) := by
 have h1 := h.onto ha b
 unfold idxU
 rw [dif_pos h1]
 exact h1.choose_spec
theorem Snd.inj (h : Snd n x s L) {i j : Nat} (hi : i < 4 * n) (hj : j < 4 * n) (e : use x s i = use x s j) : i = j := by
 rcases Nat.lt_trichotomy i j with h1 | h1 | h1
 ·exact absurd e (h.dist i j h1 hj)
 ·exact h1
 ·exact absurd e.symm (h.dist j i h1 hi)
noncomputable def tabU (n : Nat) (x : Nat → Nat → Int) (s : Nat → Int) (a k : Nat) : Nat := match k with
 | 0 => idxU n x s a true / 4
 | 1 => idxU n x s a true % 4
 | 2 => idxU n x s a false / 4
 | _ => idxU n x s a false % 4
noncomputable def dgOf (n : Nat) (x : Nat → Nat → Int) (s : Nat → Int) (L : Int) : Dg := { n := n, X := fun i j => (x i j).toNat, s := s, L := L, T := tabU n x s }
theorem good_of (h : Snd n x s L) : GoodG (dgOf n x s L) := by
 have hx : ∀ c q, c < n → q < 4 → use x s (4 * c + q) = (x c q, outB (s c) q) := fun c q hc hq => by
  unfold use
  rw [show (4 * c + q) / 4 = c by omega, show (4 * c + q) % 4 = q by omega]
 have hr : ∀ c q, c < n → q < 4 → 0 ≤ x c q ∧ x c q < 2 * n := fun c q hc hq => by
  have := h.range (4 * c + q) (by omega)
  rw [hx c q hc hq] at this
  exact this
 refine ⟨h.size, h.loops, h.sign, fun c q hc hq => ?_, fun a ha => ?_, fun c q hc hq => ?_, fun a ha => ?_⟩
 ·have := hr c q hc hq
  show (x c q).toNat < 2 * n
  omega
 ·obtain ⟨t1, t2⟩ := idxU_spec h ha true
  obtain ⟨f1, f2⟩ := idxU_spec h ha false
  have e1 : x (idxU n x s a true / 4) (idxU n x s a true % 4) = a := congrArg Prod.fst t2
  have e2 : x (idxU n x s a false / 4) (idxU n x s a false % 4) = a := congrArg Prod.fst f2
  refine ⟨by show _ / 4 < n; omega, by show _ % 4 < 4; omega, by show _ / 4 < n; omega, by show _ % 4 < 4; omega, ?_, ?_, fun hh => ?_⟩
  ·show (x (idxU n x s a true / 4) (idxU n x s a true % 4)).toNat = a
   rw [e1]; rfl
  ·show (x (idxU n x s a false / 4) (idxU n x s a false % 4)).toNat = a
   rw [e2]; rfl
  ·have h1 : idxU n x s a true / 4 = idxU n x s a false / 4 := hh.1
   have h2 : idxU n x s a true % 4 = idxU n x s a false % 4 := hh.2
   have h3 : idxU n x s a true = idxU n x s a false := by omega
   rw [h3, f2] at t2
   simp at t2
 ·have hc' : c < n := hc
  have hrr := hr c q hc hq
  have ha : (x c q).toNat < 2 * n := by omega
  have hxa : ((x c q).toNat : Int) = x c q := by omega
  obtain ⟨t1, t2⟩ := idxU_spec h ha (outB (s c) q)
  have he : idxU n x s (x c q).toNat (outB (s c) q) = 4 * c + q := h.inj t1 (by omega) (by rw [t2, hx c q hc hq, hxa])
  show (c = tabU n x s (x c q).toNat 0 ∧ q = tabU n x s (x c q).toNat 1) ∨ (c = tabU n x s (x c q).toNat 2 ∧ q = tabU n x s (x c q).toNat 3)
  cases hb : outB (s c) q
  ·right
   rw [hb] at he
   simp only [tabU, he]
   omega
  ·left
   rw [hb] at he
   simp only [tabU, he]
   omega
 ·obtain ⟨t1, t2⟩ := idxU_spec h ha true
  obtain ⟨f1, f2⟩ := idxU_spec h ha false
  exact ⟨congrArg Prod.snd t2, congrArg Prod.snd f2⟩
end Go.Proofs.Ytjlkndkedknocaa
namespace Go.Ai
theorem setL_get (vs : List Value) : ∀ (c : List Value) (off i : Nat), off + vs.length ≤ c.length → (setL c off vs)[i]? = if off ≤ i ∧ i < off + vs.length then vs[i - off]? else c[i]? := by
 induction vs with
 | nil =>
  intro c off i h
  rw [if_neg (by simp)]; rfl
 | cons v vs ih =>
  intro c off i h
  simp only [List.length_cons] at h
  rw [show setL c off (v :: vs) = setL (c.set off v) (off + 1) vs from rfl, ih _ _ _ (by simp; omega)]
  by_cases h1 : off + 1 ≤ i ∧ i < off + 1 + vs.length
  ·rw [if_pos h1, if_pos (by simp; omega), show i - off = (i - (off + 1)) + 1 by omega, List.getElem?_cons_succ]
  ·rw [if_neg h1]
   by_cases h2 : i = off
   ·subst h2
    rw [if_pos (by simp), List.getElem?_set_self (by omega), Nat.sub_self]; rfl
   ·rw [if_neg (by simp; omega), List.getElem?_set_ne (Ne.symm h2)]
theorem take_of_get {c l : List Value} {off : Nat} (h : ∀ j, j < l.length → c[off + j]? = l[j]?) (hl : off + l.length ≤ c.length) : (c.drop off).take l.length = l := by
 apply List.ext_getElem?
 intro j
 rw [List.getElem?_take]
 by_cases hj : j < l.length
 ·rw [if_pos hj, List.getElem?_drop]; exact h j hj
 ·rw [if_neg hj, List.getElem?_eq_none (by omega)]
end Go.Ai
namespace Go.Proofs.Ytjlkndkedknocaa
open Go Go.Ai
attribute [local instance] Classical.propDecidable
def dV (a : Option Addr) (n c : Nat) (L : Int) : Value := .agg #[.slice a n c, .int .i64 L]
structure Uses (n : Nat) (x : Nat → Nat → Int) (s : Nat → Int) (j : Nat) (S : Int × Bool → Option Value) : Prop where
 range : ∀ i, i < j → 0 ≤ (use x s i).1 ∧ (use x s i).1 < 2 * n
 dist : ∀ i i', i < i' → i' < j → use x s i ≠ use x s i'
 has : ∀ i, i < j → S (use x s i) = some (endV (endOf i))
 none_ : ∀ k, (∀ i, i < j → use x s i ≠ k) → S k = none
theorem Uses.next {n : Nat} {x : Nat → Nat → Int} {s : Nat → Int} {j : Nat} {S : Int × Bool → Option Value} (h : Uses n x s j S) (hn : S (use x s j) = none) (hr : 0 ≤ (use x s j).1 ∧ (use x s j).1 < 2 * n) : Uses n x s (j + 1) (upS S (use x s j) (endV (endOf j))) := by
 have hnew : ∀ i, i < j → use x s i ≠ use x s j := fun i hi e => by
  have := h.has i hi
  rw [e, hn] at this
  cases this
 refine ⟨fun i hi => ?_, fun i i' hii hi' => ?_, fun i hi => ?_, fun k hk => ?_⟩
 ·by_cases e : i = j
  ·subst e; exact hr
  ·exact h.range i (by omega)
 ·by_cases e : i' = j
  ·subst e; exact hnew i hii
  ·exact h.dist i i' hii (by omega)
 ·by_cases e : i = j
  ·subst e; simp [upS]
  ·simp only [upS]; rw [if_neg (hnew i (by omega))]; exact h.has i (by omega)
 ·simp only [upS]
  rw [if_neg (fun e => hk j (by omega) e.symm)]
  exact h.none_ k fun i hi => hk i (by omega)
theorem kIB (a : Int) (b : Bool) : Value.agg (kcIB (a, b)).toArray = .agg #[.int .i64 a, .bool b] := rfl
variable {E : Env} (hE : OE E)
include hE
theorem ends109 {h0 : List O} {a : Option Addr} {n c : Nat} {x : Nat → Nat → Int} {s : Nat → Int} {L : Int} (hx : CrossP h0 a n x s) :
  DC E 217 [dV a n c L] ⟨h0, h0.length⟩ fun o st' => (Snd n x s L ∧ ∃ ta, o = .ret (.tuple #[.slice ta (2 * n) (2 * n), .bool true]) ∧ TabP st'.h ta (2 * n) (tabU n x s) ∧ Sub h0 st'.h ∧ h0.length ≤ st'.fl) ∨
   (¬ Snd n x s L ∧ o = .ret (.tuple #[.slice none 0 0, .bool false]) ∧ st' = ⟨h0, h0.length⟩) := by
 refine hE.fnC (body := rb217) rfl ?_
 unfold rb217
 have hbad : ∀ h' f, h0.length ≤ f → ∀ Q : Out → St → Prop, Q (.ret (.tuple #[.slice none 0 0, .bool false])) ⟨h0, h0.length⟩ → pairQ (back ⟨h0, h0.length⟩ (.ret (.tuple #[.slice none 0 0, .bool false])) ⟨h', f⟩) Q := fun h' f hf Q hq => by
  unfold pairQ
  rw [back_scalar (by simp [Out.scalar, scalar, flat1, flat]) hf]
  exact hq
 by_cases c1 : n ≤ 200
 ·by_cases c2 : 0 ≤ L
  ·by_cases c3 : L ≤ 200
   ·have d1 : ¬ (200 : Int) < n := by omega
    have d2 : ¬ L < 0 := by omega
    have d3 : ¬ 200 < L := by omega
    simp [dV, rd_at0, rd_at, d1, d2, d3]
    obtain ⟨hB, hhB⟩ : ∃ H, H = h0 ++ [O.cells [.slice a n c, .int .i64 L] 24 (some 0)] := ⟨_, rfl⟩
    have lB : hB.length = h0.length + 1 := by rw [hhB]; simp
    have hdat : hB[h0.length]? = some (O.cells [.slice a n c, .int .i64 L] 24 (some 0)) := by rw [hhB, app_at0]; rfl
    have hsB : Sub h0 hB := by rw [hhB]; exact (Sub.refl h0).app _
    have hw2n : IntKind.i64.wrap (2 * (n : Int)) = 2 * n := by rw [w64_id] <;> omega
    refine DW_loop (fun kk fr st => ∃ (i : Nat) (h : List O) (es : List MapEntry) (clock : Nat) (S : Int × Bool → Option Value), i + kk = n ∧ st = ⟨h, h0.length⟩ ∧ Sub hB h ∧ h[hB.length]? = some (.map es clock) ∧ MapIs kcIB es S ∧ Uses n x s (4 * i) S ∧ (∀ i', i' < i → s i' = 1 ∨ s i' = -1) ∧
     get fr 1 = .pointer (some ⟨h0.length, 0, none⟩) ∧ get fr 4 = .map (some hB.length) ∧ get fr 30 = .slice a n c ∧ get fr 31 = .int .i64 n ∧ get fr 32 = .int .i64 i) ?_ (k := n) ?_
    ·rintro kk fr st ⟨i, h, es, clock, S, hik, rfl, hsub, hmb, hM, hU, hsg, g1, g4, g30, g31, g32⟩
     have hsl := hsub.len
     have hmin : min h0.length h.length = h0.length := by omega
     by_cases hi : i < n
     ·obtain ⟨xb, xo, hxa, hxr⟩ := hx
      obtain rfl := hxa (by omega)
      have hcr : rdN h xb (xo + i * 5) 5 = some (crossC (x i) (s i)) := (hsB.trans hsub).rdN (hxr i hi)
      rw [rdN_def] at hcr
      simp only [crossC] at hcr
      by_cases hs1 : s i = 1 ∨ s i = -1
      ·have hs2 : ((s i = 1) = True ∧ (s i = -1) = False) ∨ ((s i = 1) = False ∧ (s i = -1) = True) := by
        rcases hs1 with h | h
        ·left; simp [h]
        ·right; simp [h]
       rcases hs2 with ⟨k1, k2⟩ | ⟨k1, k2⟩
       all_goals
        simp [g1, g4, g30, g31, g32, hi, rdN_def, hcr, hmin, wrN_at0, rd_at0, rdN_at0, set_at0, k1, k2]
        obtain ⟨H, hH⟩ : ∃ H, H = h ++ [O.cells [.int .i64 (x i 0), .int .i64 (x i 1), .int .i64 (x i 2), .int .i64 (x i 3), .int .i64 (s i)] 107 (some 0)] := ⟨_, rfl⟩
        have hpc : H[h.length]? = some (O.cells [.int .i64 (x i 0), .int .i64 (x i 1), .int .i64 (x i 2), .int .i64 (x i 3), .int .i64 (s i)] 107 (some 0)) := by rw [hH, app_at0]; rfl
        have hsubH : Sub hB H := by rw [hH]; exact hsub.app _
        have hmbH : H[hB.length]? = some (.map es clock) := by rw [hH]; exact app_of hmb _
        rw [← hH]
        refine DW_loop (fun kk' fr st => ∃ (q : Nat) (h' : List O) (es : List MapEntry) (clock : Nat) (S : Int × Bool → Option Value), q + kk' = 4 ∧ st = ⟨h', h0.length⟩ ∧ Sub hB h' ∧ h'[h.length]? = some (O.cells [.int .i64 (x i 0), .int .i64 (x i 1), .int .i64 (x i 2), .int .i64 (x i 3), .int .i64 (s i)] 107 (some 0)) ∧ h'[hB.length]? = some (.map es clock) ∧ MapIs kcIB es S ∧ Uses n x s (4 * i + q) S ∧
         get fr 1 = .pointer (some ⟨h0.length, 0, none⟩) ∧ get fr 4 = .map (some hB.length) ∧ get fr 5 = .int .i64 i ∧ get fr 6 = .pointer (some ⟨h.length, 0, none⟩) ∧ get fr 30 = .slice (some ⟨xb, xo, none⟩) n c ∧ get fr 31 = .int .i64 n ∧ get fr 32 = .int .i64 i ∧
         get fr 46 = .agg #[.int .i64 (x i 0), .int .i64 (x i 1), .int .i64 (x i 2), .int .i64 (x i 3)] ∧ get fr 47 = .int .i64 q) ?_ (k := 4) ?_
        ·have hlt := (List.getElem?_eq_some_iff.1 hmb).1
         clear hH hpc hsubH hmbH hM hU hmb hsub hmin hsl g1 g4 g30 g31 g32
         rintro kk' fr' st ⟨q, h', es', clock', S', hqk, rfl, hsub, hpc, hmb, hM, hU, g1, g4, g5, g6, g30, g31, g32, g46, g47⟩
         have hsl := hsub.len
         have hmin : min h0.length h'.length = h0.length := by omega
         have hmin1 : min h0.length (h'.length + 1) = h0.length := by omega
         by_cases hq : q < 4
         ·have hq' : (q : Int) < 4 := by omega
          have hxq : [Value.int .i64 (x i 0), .int .i64 (x i 1), .int .i64 (x i 2), .int .i64 (x i 3)][q]? = some (.int .i64 (x i q)) := by
           match q, hq with
           | 0, _ => rfl
           | 1, _ => rfl
           | 2, _ => rfl
           | 3, _ => rfl
          have h123 := fun h => out123 hE (h := h) (x := x i) (s := s i) (q := q) hs1
          have huse : use x s (4 * i + q) = (x i q, outB (s i) q) := by
           unfold use
           rw [show (4 * i + q) / 4 = i by omega, show (4 * i + q) % 4 = q by omega]
          simp only [crossV] at h123
          have hout : decide ((q : Int) = 2 ∨ (q : Int) = 2 - s i) = outB (s i) q := rfl
          simp only [hout] at h123
          have hmb1 : ∀ l, (h' ++ l)[hB.length]? = _ := fun l => app_of hmb l
          have hlook := MapIs.look keyIB hM (st := ⟨h' ++ [.cells [.int .i64 (x i q), .bool (outB (s i) q)] 265 (some 0)], h0.length⟩) (hmb1 _) (x i q, outB (s i) q) (.agg #[.int .i64 0, .int .i64 0]) true
          simp only [kIB] at hlook
          by_cases hfound : ∃ j, j < 4 * i + q ∧ use x s j = use x s (4 * i + q)
          ·obtain ⟨j, hj1, hj2⟩ := hfound
           have hS := hU.has j hj1
           rw [hj2, huse] at hS
           rw [hS] at hlook
           simp at hlook
           simp [g1, g4, g5, g6, g30, g31, g32, g46, g47, hq', hxq, partL, rdN_def, rd_def, hpc, hmin, hmin1, DC_of (h123 _), wrN_at0, set_at0, app_at0, step_lookS, hlook, -List.length_append, -List.append_assoc, endV]
           exact hbad _ _ (Nat.le_min.2 ⟨Nat.le_refl _, by simp; omega⟩) _ (.inr ⟨fun h => h.dist j (4 * i + q) hj1 (by omega) hj2, rfl, rfl⟩)
          ·have hS := hU.none_ (use x s (4 * i + q)) fun j hj e => hfound ⟨j, hj, e⟩
           have hS' := hS
           rw [huse] at hS'
           rw [hS'] at hlook
           simp at hlook
           have hd1 : ∀ l, (h' ++ l)[h0.length]? = some (O.cells [.slice (some ⟨xb, xo, none⟩) n c, .int .i64 L] 24 (some 0)) := fun l => app_of (hsub _ _ hdat) l
           by_cases hr1 : x i q < 0
           ·simp [g1, g4, g5, g6, g30, g31, g32, g46, g47, hq', hxq, partL, rdN_def, rd_def, hpc, hmin, hmin1, DC_of (h123 _), wrN_at0, wrN_at, set_at, set_at0, app_at0, app_at, step_lookS, hlook, hr1]
            exact hbad _ _ (by omega) _ (.inr ⟨fun h => by
             have := (h.range (4 * i + q) (by omega)).1
             rw [huse] at this
             simp only at this
             omega, rfl, rfl⟩)
           by_cases hr2 : 2 * (n : Int) ≤ x i q
           ·simp [g1, g4, g5, g6, g30, g31, g32, g46, g47, hq', hxq, partL, rdN_def, rd_def, hpc, hmin, hmin1, DC_of (h123 _), wrN_at0, wrN_at, set_at, set_at0, app_at0, app_at, step_lookS, hlook, hr1, hr2, hd1, hw2n]
            exact hbad _ _ (by omega) _ (.inr ⟨fun h => by
             have := (h.range (4 * i + q) (by omega)).2
             rw [huse] at this
             simp only at this
             omega, rfl, rfl⟩)
           obtain ⟨es2, clock2, hupd, hM2⟩ := MapIs.upd keyIB hM (f := h0.length) (hmb1 [.cells [.int .i64 (x i q), .bool (outB (s i) q)] 265 (some 0), .cells [.int .i64 0, .int .i64 0] 72 (some 0)]) (x i q, outB (s i) q) (.agg #[.int .i64 i, .int .i64 q])
           simp only [kIB] at hupd
           have hminB : min h0.length hB.length = h0.length := by omega
           have hwq : IntKind.i64.wrap ((q : Int) + 1) = (q : Int) + 1 := by rw [w64_id] <;> omega
           simp [g1, g4, g5, g6, g30, g31, g32, g46, g47, hq', hxq, partL, rdN_def, rd_def, hpc, hmin, hmin1, DC_of (h123 _), wrN_at0, wrN_at, set_at, set_at0, app_at0, app_at, step_lookS, hlook, hr1, hr2, hd1, hw2n, step_updS, hupd, hwq, hminB]
           have hlt2 := (List.getElem?_eq_some_iff.1 hmb).1
           refine ⟨kk' - 1, by omega, q + 1, by omega, (hsub.app _).set (Nat.le_refl _) _, set_ne (app_of hpc _) (by omega), es2, ⟨clock2, set_self (app_of hmb _)⟩, upS S' (x i q, outB (s i) q) (endV (i, q)), hM2, ?_, by omega⟩
           have hnx := hU.next hS (by rw [huse]; simp only; omega)
           rw [huse, show endOf (4 * i + q) = (i, q) by unfold endOf; rw [Prod.mk.injEq]; omega] at hnx
           exact hnx
         ·have hq4 : q = 4 := by omega
          subst hq4
          have hw : IntKind.i64.wrap ((i : Int) + 1) = (i : Int) + 1 := by rw [w64_id] <;> omega
          simp [g1, g4, g5, g6, g30, g31, g32, g46, g47, hw]
          refine ⟨kk - 1, by omega, i + 1, by omega, hsub, es', ⟨clock', hmb⟩, S', hM, hU, fun i' hi' => ?_, by omega⟩
          by_cases e : i' = i
          ·rw [e]; exact hs1
          ·exact hsg i' (by omega)
        ·exact ⟨0, H, es, clock, S, by omega, rfl, hsubH, hpc, hmbH, hM, hU, by simp [g1, g4, g30, g31, g32]⟩
      ·have k1 : ¬ s i = 1 := fun e => hs1 (.inl e)
       have k2 : ¬ s i = -1 := fun e => hs1 (.inr e)
       simp [g1, g4, g30, g31, g32, hi, rdN_def, hcr, hmin, wrN_at0, rd_at0, rdN_at0, set_at0, k1, k2]
       exact hbad _ _ (by omega) _ (.inr ⟨fun h => hs1 (h.sign i hi), rfl, rfl⟩)
     ·have hin : i = n := by omega
      subst hin
      have hS : Snd i x s L := ⟨c1, ⟨c2, c3⟩, hsg, hU.range, hU.dist⟩
      have hdh := hsub _ _ hdat
      have hb1 : (0 : Int) ≤ 2 * i := by omega
      have hb2 : 2 * (i : Int) * 32 ≤ 140737488355328 := by omega
      have hb3 : 2 * (i : Int) < 4611686018427387904 := by omega
      have hb4 : (2 * (i : Int)).toNat = 2 * i := by omega
      simp [g1, g4, g30, g31, g32, rd_def, hdh, hw2n, hb1, hb2, hb3, hb4]
      refine DW_loop (fun kk fr st => ∃ (a' : Nat) (h' : List O) (cs : List Value), a' + kk = 2 * i ∧ st = ⟨h', h0.length⟩ ∧ Sub h h' ∧ h'[h.length]? = some (.cells cs 268 (some 0)) ∧ cs.length = 2 * i * 4 ∧ (∀ a2, a2 < a' → ∀ j, j < 4 → cs[a2 * 4 + j]? = (tabC (tabU i x s a2))[j]?) ∧
       get fr 4 = .map (some hB.length) ∧ get fr 12 = .slice (some ⟨h.length, 0, none⟩) (2 * i) (2 * i) ∧ get fr 88 = .int .i64 (2 * i) ∧ get fr 89 = .int .i64 a') ?_ (k := 2 * i) ?_
      ·clear g1 g4 g30 g31 g32
       rintro kk fr st ⟨a', h', cs, hak, rfl, hs', hc, hcl, hcs, g4, g12, g88, g89⟩
       have hmb' := hs' _ _ hmb
       have hml := (List.getElem?_eq_some_iff.1 hmb').1
       have hml0 := (List.getElem?_eq_some_iff.1 hmb).1
       have hmin2 : min h0.length h.length = h0.length := by omega
       by_cases ha : a' < 2 * i
       ·have ha' : (a' : Int) < 2 * i := by omega
        obtain ⟨t1, t2⟩ := idxU_spec hS ha true
        obtain ⟨f1, f2⟩ := idxU_spec hS ha false
        have hSt := hU.has _ t1
        have hSf := hU.has _ f1
        rw [t2] at hSt
        rw [f2] at hSf
        have hl1 := MapIs.look keyIB hM (st := ⟨h', h0.length⟩) hmb' ((a' : Int), true) (.agg #[.int .i64 0, .int .i64 0]) false
        have hl2 := MapIs.look keyIB hM (st := ⟨h', h0.length⟩) hmb' ((a' : Int), false) (.agg #[.int .i64 0, .int .i64 0]) false
        simp only [kIB, hSt, hSf, endV] at hl1 hl2
        simp at hl1 hl2
        have hoff : a' * 4 + 4 ≤ cs.length := by omega
        have hw : IntKind.i64.wrap ((a' : Int) + 1) = (a' : Int) + 1 := by rw [w64_id] <;> omega
        simp [g4, g12, g88, g89, ha', step_lookS, hl1, hl2, wrN_def, hc, hoff, bit, hmin2, hw]
        refine ⟨kk - 1, by omega, a' + 1, by omega, hs'.set (Nat.le_refl _) _, _, set_self hc, ?_, fun a2 ha2 j hj => ?_, by omega⟩
        ·simp [hcl]
        ·show (setL cs (a' * 4) (tabC (tabU i x s a')))[a2 * 4 + j]? = _
         rw [setL_get _ _ _ _ (by simp [tabC]; omega)]
         have hl4 : (tabC (tabU i x s a')).length = 4 := rfl
         rw [hl4]
         by_cases e : a2 = a'
         ·subst e
          rw [if_pos (by omega), Nat.add_sub_cancel_left]
         ·rw [if_neg (by omega)]
          exact hcs a2 (by omega) j hj
       ·have : a' = 2 * i := by omega
        subst this
        simp [g4, g12, g88, g89, endK_ret]
        unfold pairQ back
        rw [if_neg (by simp [Out.scalar, scalar, flat1, flat])]
        refine .inl ⟨hS, some ⟨h.length, 0, none⟩, rfl, ⟨h.length, 0, fun _ => rfl, fun i' hi' => ?_⟩, hsB.trans (hsub.trans hs'), Nat.le_refl _⟩
        rw [rdN_def, hc, rdNO_cells, if_pos (by omega), Nat.zero_add]
        congr 1
        exact take_of_get (l := tabC (tabU i x s i')) (fun j hj => hcs i' hi' j hj) (by simp [tabC]; omega)
      ·refine ⟨0, _, _, by omega, rfl, (Sub.refl h).app _, by rw [app_at0]; rfl, by simp [rep_length], fun a2 h => by omega, ?_⟩
       simp [g4]
    ·refine ⟨0, _, [], 0, fun _ => none, by omega, rfl, ?_, ?_, MapIs.nil, ⟨fun i hi => by omega, fun i i' h1 h2 => by omega, fun i hi => by omega, fun k _ => rfl⟩, fun i' h => by omega, ?_⟩
     ·rw [hhB]
      refine Sub.trans ((Sub.refl _).app [O.map [] 0]) ?_
      rw [List.append_assoc]
      exact Sub.refl _
     ·rw [lB]; simp [app_at]
     ·simp [lB]
   ·have d2 : 200 < L := by omega
    have d3 : ¬ L < 0 := by omega
    have d1 : ¬ (200 : Int) < n := by omega
    simp [dV, rd_at0, rd_at, d1, d2, d3, endK_ret]
    exact hbad _ _ (Nat.le_refl _) _ (.inr ⟨fun h => absurd h.loops.2 c3, rfl, rfl⟩)
  ·have d2 : L < 0 := by omega
   have d1 : ¬ (200 : Int) < n := by omega
   simp [dV, rd_at0, rd_at, d1, d2, endK_ret]
   exact hbad _ _ (Nat.le_refl _) _ (.inr ⟨fun h => absurd h.loops.1 c2, rfl, rfl⟩)
 ·have d1 : (200 : Int) < n := by omega
  simp [dV, rd_at0, d1, endK_ret]
  exact hbad _ _ (Nat.le_refl _) _ (.inr ⟨fun h => absurd h.size c1, rfl, rfl⟩)
end Go.Proofs.Ytjlkndkedknocaa
namespace Go.Ai
theorem OwnS.keep {h h' : List O} {lo k : Nat} {v : Value} {cs : List Value} {el : TypeId} {size : Nat} (ho : OwnS h lo v k cs el size) (hk : ∀ b s, v = .slice (some ⟨b, 0, none⟩) k k → h[b]? = some (.cells cs el (some s)) → h'[b]? = some (.cells cs el (some s))) : OwnS h' lo v k cs el size := by
 refine ⟨ho.1, ?_⟩
 rcases ho.2 with h1 | ⟨b, s, h1, h2, h3, h4⟩
 ·exact .inl h1
 ·exact .inr ⟨b, s, h1, h2, hk b s h1 h3, h4⟩
theorem append_S {H : List O} {lo k n fl c : Nat} {v : Value} {cs new : List Value} {el : TypeId} {size bytes : Nat} {xb : Option Addr}
  (ho : OwnS H lo v k cs el size) (hx : readSlice H size n xb = some new) (hnew : new.length = n * size) (hone : new.all one1 = true) (hlo : lo ≤ H.length) (hroom : (k + n) * bytes ≤ roomMax) (hn : 0 < n) :
  ∃ b' H' fl', appendV el size bytes v (.slice xb n c) ⟨H, fl⟩ = some (.slice (some ⟨b', 0, none⟩) (k + n) (k + n), ⟨H', fl'⟩) ∧ H.length ≤ b' ∧ OwnS H' lo (.slice (some ⟨b', 0, none⟩) (k + n) (k + n)) (k + n) (cs ++ new) el size ∧ min fl lo ≤ fl' ∧ fl' ≤ fl ∧ H.length ≤ H'.length ∧
   (∀ (b : Nat) (o : O), H[b]? = some o → (∀ n c, v ≠ .slice (some ⟨b, 0, none⟩) n c) → H'[b]? = some o) := by
 obtain ⟨hl, hv⟩ := ho
 rcases hv with ⟨rfl, rfl⟩ | ⟨b, s, rfl, hb, hcell, hs⟩
 ·refine ⟨H.length, H ++ [.cells ([] ++ new) el (some size)], fl, ?_, Nat.le_refl _, ⟨?_, .inr ⟨H.length, size, rfl, hlo, ?_, .inr rfl⟩⟩, by omega, Nat.le_refl _, by simp, fun b o e _ => app_of e _⟩
  ·simp only [appendV, hx, bind, Option.bind_some, appendCells]
   rw [if_neg (by omega), if_neg (by omega), if_pos ⟨hroom, hone⟩]
   simp [readSlice, kill]
  ·simp [hl, hnew, Nat.add_mul]
  ·have : cs = [] := by
    have : cs.length = 0 := by simp [hl]
    exact List.length_eq_zero_iff.1 this
   simp [this]
 ·have hread : readSlice H size k (some ⟨b, 0, none⟩) = some cs := by
   simp only [readSlice]
   split
   ·rename_i h0'
    have : cs = [] := List.length_eq_zero_iff.1 (by omega)
    rw [this]
   ·simp [rdN, hcell, hl]
    exact List.take_of_length_le (by omega)
  refine ⟨H.length, (H.set b .dead) ++ [.cells (cs ++ new) el (some size)], min fl b, ?_, Nat.le_refl _, ⟨?_, .inr ⟨H.length, size, rfl, hlo, ?_, .inr rfl⟩⟩, by omega, by omega, by simp, fun b' o e hd => ?_⟩
  ·simp only [appendV, hx, bind, Option.bind_some, appendCells]
   rw [if_neg (by omega), if_neg (by omega), if_pos ⟨hroom, hone⟩, hread]
   simp only [kill, hcell, Option.bind_some]
   rw [if_pos ⟨hs, by simp⟩]
   simp only [Option.bind_some, List.length_set]
  ·simp [hl, hnew, Nat.add_mul]
  ·simp
  ·have hne : b' ≠ b := fun e' => hd k k (by rw [e'])
   refine app_of ?_ _
   rw [List.getElem?_set_ne (Ne.symm hne)]; exact e
def intsC (xs : List Int) : List Value := xs.map (.int .i64)
@[simp] theorem intsC_length (xs : List Int) : (intsC xs).length = xs.length := by simp [intsC]
theorem intsC_get {xs : List Int} {i : Nat} (hi : i < xs.length) : (intsC xs)[i]? = some (.int .i64 (nth xs i)) := by simp [intsC, hi, nth]
@[simp] theorem intsC_getElem {xs : List Int} {i : Nat} (h : i < (intsC xs).length) : (intsC xs)[i] = .int .i64 (nth xs i) := by
 have h' : i < xs.length := by simpa using h
 simp [intsC, nth, h']
theorem intsC_set (xs : List Int) (i : Nat) (x : Int) : (intsC xs).set i (.int .i64 x) = intsC (xs.set i x) := by simp [intsC, List.map_set]
theorem nth_snoc {xs : List Int} {x : Int} {i : Nat} (hi : i < xs.length + 1) : nth (xs ++ [x]) i = if i < xs.length then nth xs i else x := by
 unfold nth
 by_cases h : i < xs.length
 ·rw [if_pos h]; simp [List.getD_eq_getElem?_getD, List.getElem?_append_left h]
 ·rw [if_neg h, List.getD_eq_getElem?_getD, List.getElem?_append_right (by omega), show i - xs.length = 0 by omega]; rfl
theorem nth_set {xs : List Int} {i j : Nat} {x : Int} (hi : i < xs.length) : nth (xs.set i x) j = if j = i then x else nth xs j := by
 unfold nth
 by_cases h : j = i
 ·subst h; simp [hi]
 ·rw [if_neg h, List.getD_eq_getElem?_getD, List.getElem?_set_ne (Ne.symm h), ← List.getD_eq_getElem?_getD]
end Go.Ai
namespace Go.Proofs.Ytjlkndkedknocaa
open Go Go.Ai
attribute [local instance] Classical.propDecidable
inductive Conn (G : Dg) : Nat → Nat → Prop
 | refl (a : Nat) : Conn G a a
 | step {a b : Nat} (q : Nat) : Conn G a b → q < 4 → Conn G a (oth G (b, q)).1
variable {G : Dg} (hG : GoodG G)
theorem Conn.trans {a b c : Nat} (h : Conn G a b) (k : Conn G b c) : Conn G a c := by
 induction k with
 | refl => exact h
 | step q _ hq ih => exact ih.step q hq
include hG
theorem nb {c q : Nat} (hc : c < G.n) (hq : q < 4) : (oth G (c, q)).1 < G.n ∧ (oth G (c, q)).2 < 4 ∧ oth G ((oth G (c, q)).1, (oth G (c, q)).2) = (c, q) := by
 have h := oth_spec hG (hG.inV (x := (c, q)) hc hq)
 exact ⟨h.1.1, h.1.2.1, h.2.1⟩
theorem Conn.lt {a b : Nat} (h : Conn G a b) (ha : a < G.n) : b < G.n := by
 induction h with
 | refl => exact ha
 | step q _ hq ih => exact (nb hG ih hq).1
theorem Conn.symm {a b : Nat} (h : Conn G a b) (ha : a < G.n) : Conn G b a := by
 induction h with
 | refl => exact .refl _
 | @step b q hab hq ih =>
  have hb := hab.lt hG ha
  obtain ⟨n1, n2, n3⟩ := nb hG hb hq
  have : Conn G (oth G (b, q)).1 b := by
   have := (Conn.refl (G := G) (oth G (b, q)).1).step (oth G (b, q)).2 n2
   rwa [n3] at this
  exact this.trans ih
omit hG in
structure CI (G : Dg) (cnt : Int) (xs : List Int) : Prop where
 closed : ∀ j q, j < G.n → q < 4 → 0 ≤ nth xs j → nth xs j < cnt → nth xs (oth G (j, q)).1 = nth xs j
 conn : ∀ j j', j < G.n → j' < G.n → 0 ≤ nth xs j → nth xs j < cnt → nth xs j = nth xs j' → Conn G j j'
omit hG in
structure BI (G : Dg) (i : Nat) (cnt : Int) (m q : Nat) (xs qs : List Int) : Prop where
 old : CI G cnt xs
 len : xs.length = G.n
 qlab : ∀ t, t < qs.length → 0 ≤ nth qs t ∧ nth qs t < G.n ∧ nth xs (nth qs t).toNat = cnt
 inq : ∀ j, j < G.n → nth xs j = cnt → ∃ t, t < qs.length ∧ nth qs t = j
 root : ∀ j, j < G.n → nth xs j = cnt → Conn G i j
 lim : ∀ j, j < G.n → nth xs j ≤ cnt
 procd : ∀ t, t < m → ∀ q', q' < 4 → nth xs (oth G ((nth qs t).toNat, q')).1 = cnt
 cur : ∀ q', q' < q → nth xs (oth G ((nth qs m).toNat, q')).1 = cnt
omit hG in
theorem BI.start {i : Nat} {cnt : Int} {xs : List Int} (h : CI G cnt xs) (hl : xs.length = G.n) (hi : i < G.n) (hneg : nth xs i < 0) (hc : 0 ≤ cnt) (hlim : ∀ j, j < G.n → nth xs j < cnt) : BI G i cnt 0 0 (xs.set i cnt) [(i : Int)] := by
 have hi2 : i < xs.length := by omega
 have hn : ∀ j, nth (xs.set i cnt) j = if j = i then cnt else nth xs j := fun j => nth_set hi2
 refine ⟨⟨fun j q hj hq h1 h2 => ?_, fun j j' hj hj' h1 h2 h3 => ?_⟩, by simp [hl], fun t ht => ?_, fun j hj h1 => ?_, fun j hj h1 => ?_, fun j hj => ?_, fun t ht => by omega, fun q' hq' => by omega⟩
 ·rw [hn] at h1 h2 ⊢
  rw [hn]
  by_cases e : j = i
  ·rw [if_pos e] at h2; omega
  ·rw [if_neg e] at h1 h2 ⊢
   have h4 := h.closed j q hj hq h1 h2
   by_cases e2 : (oth G (j, q)).1 = i
   ·rw [e2] at h4; omega
   ·rw [if_neg e2]; exact h4
 ·rw [hn] at h1 h2 h3
  rw [hn] at h3
  by_cases e : j = i
  ·rw [if_pos e] at h2; omega
  ·rw [if_neg e] at h1 h2 h3
   by_cases e2 : j' = i
   ·rw [if_pos e2] at h3; omega
   ·rw [if_neg e2] at h3; exact h.conn j j' hj hj' h1 h2 h3
 ·have : t = 0 := by simp at ht; exact ht
  subst this
  have : nth [(i : Int)] 0 = i := rfl
  rw [this, hn]
  exact ⟨by omega, by omega, by rw [if_pos (by omega)]⟩
 ·rw [hn] at h1
  by_cases e : j = i
  ·exact ⟨0, by simp, by rw [e]; rfl⟩
  ·rw [if_neg e] at h1
   have := hlim j hj; omega
 ·rw [hn] at h1
  by_cases e : j = i
  ·rw [e]; exact .refl _
  ·rw [if_neg e] at h1
   have := hlim j hj; omega
 ·rw [hn]
  split
  ·exact Int.le_refl _
  ·have := hlim j hj; omega
theorem BI.nbr {i m q c : Nat} {cnt : Int} {xs qs : List Int} (h : BI G i cnt m q xs qs) (hm : m < qs.length) (hc : nth qs m = c) (hq : q < 4) (h0 : 0 ≤ nth xs (oth G (c, q)).1) : nth xs (oth G (c, q)).1 = cnt := by
 have hl := h.qlab m hm
 have hcn : c < G.n := by omega
 have hct : (nth qs m).toNat = c := by omega
 rw [hct] at hl
 obtain ⟨n1, n2, n3⟩ := nb hG hcn hq
 have hle := h.lim _ n1
 apply Classical.byContradiction
 intro hne
 have h4 := h.old.closed _ _ n1 n2 h0 (by omega)
 rw [n3] at h4
 simp only at h4
 omega
theorem BI.skip {i m q c : Nat} {cnt : Int} {xs qs : List Int} (h : BI G i cnt m q xs qs) (hm : m < qs.length) (hc : nth qs m = c) (hq : q < 4) (h0 : 0 ≤ nth xs (oth G (c, q)).1) : BI G i cnt m (q + 1) xs qs := by
 refine ⟨h.old, h.len, h.qlab, h.inq, h.root, h.lim, h.procd, fun q' hq' => ?_⟩
 by_cases e : q' = q
 ·subst e
  have hct : (nth qs m).toNat = c := by omega
  rw [hct]
  exact h.nbr hG hm hc hq h0
 ·exact h.cur q' (by omega)
theorem BI.set {i m q c : Nat} {cnt : Int} {xs qs : List Int} (h : BI G i cnt m q xs qs) (hm : m < qs.length) (hc : nth qs m = c) (hq : q < 4) (hc0 : 0 ≤ cnt) (hneg : nth xs (oth G (c, q)).1 < 0) :
  BI G i cnt m (q + 1) (xs.set (oth G (c, q)).1 cnt) (qs ++ [((oth G (c, q)).1 : Int)]) := by
 have hl := h.qlab m hm
 have hcn : c < G.n := by omega
 have hct : (nth qs m).toNat = c := by omega
 obtain ⟨n1, n2, n3⟩ := nb hG hcn hq
 obtain ⟨c2, hc2⟩ : ∃ c2, c2 = (oth G (c, q)).1 := ⟨_, rfl⟩
 rw [← hc2] at n1 hneg ⊢
 have hi2 : c2 < xs.length := by have := h.len; omega
 have hn : ∀ j, nth (xs.set c2 cnt) j = if j = c2 then cnt else nth xs j := fun j => nth_set hi2
 have hold : ∀ j, nth xs j = cnt → nth (xs.set c2 cnt) j = cnt := fun j hj => by
  rw [hn]; split
  ·rfl
  ·exact hj
 have hqold : ∀ t, t < qs.length → nth (qs ++ [(c2 : Int)]) t = nth qs t := fun t ht => by rw [nth_snoc (by omega), if_pos ht]
 refine ⟨⟨fun j q hj hq h1 h2 => ?_, fun j j' hj hj' h1 h2 h3 => ?_⟩, by simp [h.len], fun t ht => ?_, fun j hj h1 => ?_, fun j hj h1 => ?_, fun j hj => ?_, fun t ht q' hq' => ?_, fun q' hq' => ?_⟩
 ·rw [hn] at h1 h2 ⊢
  rw [hn]
  by_cases e : j = c2
  ·rw [if_pos e] at h2; omega
  ·rw [if_neg e] at h1 h2 ⊢
   have h4 := h.old.closed j q hj hq h1 h2
   by_cases e2 : (oth G (j, q)).1 = c2
   ·rw [e2] at h4; omega
   ·rw [if_neg e2]; exact h4
 ·rw [hn] at h1 h2 h3
  rw [hn] at h3
  by_cases e : j = c2
  ·rw [if_pos e] at h2; omega
  ·rw [if_neg e] at h1 h2 h3
   by_cases e2 : j' = c2
   ·rw [if_pos e2] at h3; omega
   ·rw [if_neg e2] at h3; exact h.old.conn j j' hj hj' h1 h2 h3
 ·simp at ht
  rw [nth_snoc ht]
  by_cases e : t < qs.length
  ·rw [if_pos e]
   obtain ⟨a1, a2, a3⟩ := h.qlab t e
   exact ⟨a1, a2, hold _ a3⟩
  ·rw [if_neg e]
   refine ⟨by omega, by omega, ?_⟩
   rw [hn, if_pos (by omega)]
 ·rw [hn] at h1
  by_cases e : j = c2
  ·exact ⟨qs.length, by simp, by rw [nth_snoc (by omega), if_neg (by omega), e]⟩
  ·rw [if_neg e] at h1
   obtain ⟨t, a1, a2⟩ := h.inq j hj h1
   exact ⟨t, by simp; omega, by rw [hqold t a1]; exact a2⟩
 ·rw [hn] at h1
  by_cases e : j = c2
  ·rw [e, hc2]
   rw [hct] at hl
   exact (h.root c hcn hl.2.2).step q hq
  ·rw [if_neg e] at h1
   exact h.root j hj h1
 ·rw [hn]
  split
  ·exact Int.le_refl _
  ·exact h.lim j hj
 ·rw [hqold t (by omega)]
  exact hold _ (h.procd t ht q' hq')
 ·rw [hqold m hm]
  by_cases e : q' = q
  ·subst e
   rw [hct, ← hc2, hn, if_pos rfl]
  ·exact hold _ (h.cur q' (by omega))
omit hG in
theorem BI.next {i m : Nat} {cnt : Int} {xs qs : List Int} (h : BI G i cnt m 4 xs qs) : BI G i cnt (m + 1) 0 xs qs :=
 ⟨h.old, h.len, h.qlab, h.inq, h.root, h.lim, fun t ht q' hq' => by
  by_cases e : t = m
  ·subst e; exact h.cur q' hq'
  ·exact h.procd t (by omega) q' hq', fun q' hq' => by omega⟩
theorem BI.finish {i m : Nat} {cnt : Int} {xs qs : List Int} (h : BI G i cnt m 0 xs qs) (hm : m = qs.length) (hi : i < G.n) : CI G (cnt + 1) xs := by
 subst hm
 refine ⟨fun j q hj hq h1 h2 => ?_, fun j j' hj hj' h1 h2 h3 => ?_⟩
 ·by_cases e : nth xs j = cnt
  ·obtain ⟨t, a1, a2⟩ := h.inq j hj e
   have := h.procd t a1 q hq
   rw [show (nth qs t).toNat = j by omega] at this
   rw [this, e]
  ·exact h.old.closed j q hj hq h1 (by omega)
 ·by_cases e : nth xs j = cnt
  ·exact ((h.root j hj e).symm hG hi).trans (h.root j' hj' (by omega))
  ·exact h.old.conn j j' hj hj' h1 (by omega) h3
theorem CI.iff {cnt : Int} {xs : List Int} (h : CI G cnt xs) (hall : ∀ j, j < G.n → 0 ≤ nth xs j ∧ nth xs j < cnt) {i j : Nat} (hi : i < G.n) (hj : j < G.n) : nth xs i = nth xs j ↔ Conn G i j := by
 refine ⟨h.conn i j hi hj (hall i hi).1 (hall i hi).2, fun hc => ?_⟩
 clear hj
 induction hc with
 | refl => rfl
 | @step b q hab hq ih =>
  have hb := hab.lt hG hi
  rw [h.closed b q hb hq (hall b hb).1 (hall b hb).2]
  exact ih
end Go.Proofs.Ytjlkndkedknocaa
namespace Go.Ai
theorem OwnS.at_ {h : List O} {lo k b : Nat} {cs : List Value} {el : TypeId} {size : Nat} (ho : OwnS h lo (.slice (some ⟨b, 0, none⟩) k k) k cs el size) : lo ≤ b ∧ ∃ s, h[b]? = some (.cells cs el (some s)) := by
 rcases ho.2 with ⟨h1, _⟩ | ⟨b', s, h1, h2, h3, _⟩
 ·cases h1
 ·simp only [Value.slice.injEq, Option.some.injEq, Addr.mk.injEq, and_true] at h1
  rw [h1]; exact ⟨h2, s, h3⟩
def unf (xs : List Int) : Nat := xs.countP fun x => decide (x < 0)
theorem unf_set {xs : List Int} {i : Nat} {x : Int} (hi : i < xs.length) (h1 : nth xs i < 0) (h2 : 0 ≤ x) : unf (xs.set i x) + 1 = unf xs := by
 have hx : xs[i] < 0 := by simpa [nth, hi] using h1
 have hpos : 0 < List.countP (fun x => decide (x < 0)) xs := List.countP_pos_iff.2 ⟨xs[i], List.getElem_mem hi, by simpa using hx⟩
 unfold unf
 rw [List.countP_set hi, if_pos (by simpa using hx), if_neg (by simp; omega)]
 omega
end Go.Ai
namespace Go.Proofs.Ytjlkndkedknocaa
open Go Go.Ai
attribute [local instance] Classical.propDecidable
structure PI (h0 : List O) (n i : Nat) (cnt lim : Int) (h : List O) (xs : List Int) : Prop where
 sub : Sub h0 h
 at_ : h[h0.length]? = some (.cells (intsC xs) 3 (some 0))
 len : xs.length = n
 val : ∀ j, j < n → nth xs j = -1 ∨ (0 ≤ nth xs j ∧ nth xs j < lim)
 done : ∀ j, j < i → 0 ≤ nth xs j
 cnt0 : 0 ≤ cnt
 surj : ∀ j : Nat, (j : Int) < lim → ∃ i', i' < n ∧ nth xs i' = j
variable {E : Env} (hE : OE E)
include hE
theorem pieces110 {G : Dg} (hG : GoodG G) {h0 : List O} {p : Nat} (hd : DiagP h0 p G) :
  DC E 218 [.pointer (some ⟨p, 0, none⟩)] ⟨h0, h0.length⟩ fun o st' => ∃ (xs : List Int) (k : Nat), o = .ret (.tuple #[.slice (some ⟨h0.length, 0, none⟩) G.n G.n, .int .i64 k]) ∧ h0.length ≤ st'.fl ∧ PI h0 G.n G.n k k st'.h xs ∧ k ≤ G.n ∧ CI G k xs := by
 refine hE.fnC (body := rb218) rfl ?_
 unfold rb218
 have hd0 := hd
 obtain ⟨xa, xc, ta, tc, el, own, hp0, _, _⟩ := hd0
 have hsz := hG.size
 have e1 : (G.n : Int) * 8 ≤ 140737488355328 := by omega
 have e2 : (G.n : Int) < 4611686018427387904 := by omega
 simp [rd_def, hp0, e1, e2]
 refine DW_loop (fun kk fr st => ∃ (i : Nat) (h : List O) (xs : List Int), i + kk = G.n ∧ st = ⟨h, h0.length⟩ ∧ Sub h0 h ∧ h[h0.length]? = some (.cells (intsC xs) 3 (some 0)) ∧ xs.length = G.n ∧ (∀ j, j < i → nth xs j = -1) ∧ get fr 0 = .pointer (some ⟨p, 0, none⟩) ∧ get fr 4 = .slice (some ⟨h0.length, 0, none⟩) G.n G.n ∧ get fr 20 = .int .i64 G.n ∧ get fr 21 = .int .i64 i) ?_ (k := G.n) ?_
 ·rintro kk fr st ⟨i, h, xs, hik, rfl, hsub, hat, hlen, hm, g0, g4, g20, g21⟩
  by_cases hi : i < G.n
  ·have hw : IntKind.i64.wrap ((i : Int) + 1) = (i : Int) + 1 := by rw [w64_id] <;> omega
   have hi2 : i < xs.length := by omega
   simp [g0, g4, g20, g21, hi, wrN_def, hat, hlen, intsC_set, hw]
   rw [if_pos (by omega)]
   simp [g0, g4, g20, g21, hw]
   refine ⟨kk - 1, by omega, i + 1, by omega, hsub.set (Nat.le_refl _) _, xs.set i (-1), set_self hat, by simp [hlen], fun j hj => ?_, by omega⟩
   rw [nth_set hi2]
   by_cases e : j = i
   ·rw [if_pos e]
   ·rw [if_neg e]; exact hm j (by omega)
  ·have hin : i = G.n := by omega
   simp [g0, g4, g20, g21, hi]
   have hPI : PI h0 G.n 0 0 0 h xs := ⟨hsub, hat, hlen, fun j hj => .inl (hm j (by omega)), fun j hj => by omega, Int.le_refl _, fun j hj => by omega⟩
   have hunf : unf xs ≤ G.n := by rw [← hlen]; exact List.countP_le_length
   refine DW_loop (fun kk fr st => ∃ (i : Nat) (h : List O) (xs : List Int) (cnt : Nat), i + kk = G.n ∧ st = ⟨h, h0.length⟩ ∧ PI h0 G.n i cnt cnt h xs ∧ CI G cnt xs ∧ cnt + unf xs ≤ G.n ∧ get fr 0 = .pointer (some ⟨p, 0, none⟩) ∧ get fr 4 = .slice (some ⟨h0.length, 0, none⟩) G.n G.n ∧ get fr 6 = .int .i64 cnt ∧ get fr 29 = .int .i64 G.n ∧ get fr 30 = .int .i64 i) ?_ (k := G.n) ?_
   ·clear g0 g4 g20 g21 hPI hunf hi hin hm hlen hat hsub hik
    clear xs h i
    rintro kk fr st ⟨i, h, xs, cnt, hik, rfl, hI, hC, hcnt, g0, g4, g6, g29, g30⟩
    have hlen := hI.len
    have hat := hI.at_
    by_cases hi : i < G.n
    ·have hw : IntKind.i64.wrap ((i : Int) + 1) = (i : Int) + 1 := by rw [w64_id] <;> omega
     have hi2 : i < xs.length := by omega
     by_cases hf : 0 ≤ nth xs i
     ·simp [g0, g4, g6, g29, g30, hi, rd_def, hat, intsC_get hi2, hf, hw]
      refine ⟨kk - 1, by omega, i + 1, by omega, xs, cnt, ⟨hI.sub, hI.at_, hI.len, hI.val, fun j hj => ?_, hI.cnt0, hI.surj⟩, hC, hcnt, rfl, by omega⟩
      by_cases e : j = i
      ·rw [e]; exact hf
      ·exact hI.done j (by omega)
     ·have hi3 : i + 1 ≤ xs.length := by omega
      simp [g0, g4, g6, g29, g30, hi, rd_def, wrN_def, hat, intsC_get hi2, hf, intsC_set, hi3]
      have hneg : nth xs i < 0 := by omega
      have huf := unf_set (x := (cnt : Int)) hi2 hneg (by omega)
      have hlset : (h.set h0.length (O.cells (intsC (xs.set i cnt)) 3 (some 0))).length = h.length := List.length_set
      refine DW_loop (fun kk fr st => ∃ (m : Nat) (h : List O) (xs qs : List Int) (qb : Nat), m + kk = G.n ∧ st = ⟨h, h0.length⟩ ∧ PI h0 G.n (i + 1) cnt (cnt + 1) h xs ∧ OwnS h (h0.length + 1) (.slice (some ⟨qb, 0, none⟩) qs.length qs.length) qs.length (intsC qs) 3 1 ∧
       BI G i cnt m 0 xs qs ∧ 0 < qs.length ∧ m ≤ qs.length ∧ cnt + unf xs + qs.length ≤ G.n ∧ get fr 0 = .pointer (some ⟨p, 0, none⟩) ∧ get fr 4 = .slice (some ⟨h0.length, 0, none⟩) G.n G.n ∧ get fr 6 = .int .i64 cnt ∧ get fr 29 = .int .i64 G.n ∧ get fr 30 = .int .i64 i ∧
       get fr 8 = .slice (some ⟨qb, 0, none⟩) qs.length qs.length ∧ get fr 9 = .int .i64 m) ?_ (k := G.n) ?_
      ·clear g0 g4 g6 g29 g30 huf hneg hi3 hf hi2 hat hlen hcnt hI hlset hC
       clear xs h
       rintro kk2 fr st ⟨m, h, xs, qs, qb, hmk, rfl, hI, hq, hB, hq0, hmq, hcnt, g0, g4, g6, g29, g30, g8, g9⟩
       by_cases hm : m < qs.length
       ·simp [g0, g4, g6, g29, g30, g8, g9, hm]
        refine DW_loop (fun kk' fr st => ∃ (q : Nat) (h : List O) (xs qs : List Int) (qb : Nat), q + kk' = 4 ∧ st = ⟨h, h0.length⟩ ∧ PI h0 G.n (i + 1) cnt (cnt + 1) h xs ∧ OwnS h (h0.length + 1) (.slice (some ⟨qb, 0, none⟩) qs.length qs.length) qs.length (intsC qs) 3 1 ∧
         BI G i cnt m q xs qs ∧ m < qs.length ∧ cnt + unf xs + qs.length ≤ G.n ∧ get fr 0 = .pointer (some ⟨p, 0, none⟩) ∧ get fr 4 = .slice (some ⟨h0.length, 0, none⟩) G.n G.n ∧ get fr 6 = .int .i64 cnt ∧ get fr 29 = .int .i64 G.n ∧ get fr 30 = .int .i64 i ∧
         get fr 8 = .slice (some ⟨qb, 0, none⟩) qs.length qs.length ∧ get fr 9 = .int .i64 m ∧ get fr 50 = .int .i64 q) ?_ (k := 4) ?_
        ·clear g0 g4 g6 g29 g30 g8 g9 hcnt hmq hq0 hB hq hI hm
         clear xs h qs qb
         rintro kk3 fr st ⟨q, h, xs, qs, qb, hqk, rfl, hI, hq, hB, hm, hcnt, g0, g4, g6, g29, g30, g8, g9, g50⟩
         by_cases hq4 : q < 4
         ·have hq' : (q : Int) < 4 := by omega
          obtain ⟨hqb, sq, hqat⟩ := hq.at_
          have hat := hI.at_
          have hlen := hI.len
          have hqm := hB.qlab m hm
          obtain ⟨c, hc⟩ : ∃ c : Nat, nth qs m = c := ⟨(nth qs m).toNat, by omega⟩
          have hcn : c < G.n := by omega
          have hv := hG.inV (x := (c, q)) hcn hq4
          have hr := fun h' (hs : Sub h0 h') => other124 hE (h := h') (hd.sub hs) hv.1 hv.2.1 hv.2.2
          have hr1 := hr h hI.sub
          simp only [endV] at hr1
          have hov := (oth_spec hG hv).1
          obtain ⟨c2, hc2⟩ : ∃ c2, c2 = (oth G (c, q)).1 := ⟨_, rfl⟩
          have hc2n : c2 < G.n := by rw [hc2]; exact hov.1
          rw [← hc2] at hr1
          have hc3 : c2 < xs.length := by omega
          have hw : IntKind.i64.wrap ((q : Int) + 1) = (q : Int) + 1 := by rw [w64_id] <;> omega
          by_cases hf : nth xs c2 < 0
          ·have hqne : qb ≠ h0.length := by omega
           have hset : ∀ (b : Nat) (o : O), h[b]? = some o → b ≠ h0.length → (h.set h0.length (O.cells (intsC (xs.set c2 cnt)) 3 (some 0)))[b]? = some o := fun b o hb hn => set_ne hb hn
           obtain ⟨H, hH⟩ : ∃ H, H = h.set h0.length (O.cells (intsC (xs.set c2 cnt)) 3 (some 0)) := ⟨_, rfl⟩
           have hlH : H.length = h.length := by rw [hH]; exact List.length_set
           have hq2 : OwnS (H ++ [.cells [.int .i64 c2] 3 (some 0)]) (h0.length + 1) (.slice (some ⟨qb, 0, none⟩) qs.length qs.length) qs.length (intsC qs) 3 1 := hq.keep fun b s e1 e2 => app_of (by rw [hH]; exact set_ne e2 (by simp at e1; omega)) _
           have hread : readSlice (H ++ [.cells [.int .i64 c2] 3 (some 0)]) 1 1 (some ⟨H.length, 0, none⟩) = some [.int .i64 c2] := by simp [readSlice, rdN_at0]
           have huf := unf_set (x := (cnt : Int)) hc3 hf (by omega)
           have hsl := hI.sub.len
           obtain ⟨b', H4, f4, happ, hb', hown, hf1, hf2, hL4, K4⟩ := append_S (fl := h0.length) (c := 1) (bytes := 8) hq2 hread (by simp) (by simp) (by simp [hlH]; have := (List.getElem?_eq_some_iff.1 hqat).1; omega) (by simp only [roomMax]; omega) (by omega)
           obtain rfl : f4 = h0.length := by omega
           rw [hlH] at happ
           have hc4 : c2 + 1 ≤ xs.length := by omega
           simp [g0, g4, g6, g29, g30, g8, g9, g50, hq', hm, rd_def, wrN_def, hqat, intsC_get hm, hc, DC_of hr1, partL, hat, hc2n, intsC_get hc3, hf, hw, hc4, intsC_set, ← hH, hlH, happ, -List.length_append]
           have hatH : H[h0.length]? = some (.cells (intsC (xs.set c2 cnt)) 3 (some 0)) := by rw [hH]; exact set_self hat
           have hown' : OwnS H4 (h0.length + 1) (.slice (some ⟨b', 0, none⟩) (qs.length + 1) (qs.length + 1)) (qs.length + 1) (intsC (qs ++ [(c2 : Int)])) 3 1 := by simpa [intsC] using hown
           refine ⟨kk3 - 1, by omega, q + 1, by omega, xs.set c2 cnt, ⟨fun b o hb => ?_, K4 _ _ (app_of hatH _) (fun n c e => by simp at e <;> omega), by simp [hlen], fun j hj => ?_, fun j hj => ?_, hI.cnt0, fun j hj => ?_⟩, qs ++ [(c2 : Int)], b', by simpa using hown', by rw [hc2]; exact hB.set hG hm hc hq4 (by omega) (by rw [← hc2]; exact hf), by simp; omega, by simp; omega, ?_⟩
           ·have hbl := (List.getElem?_eq_some_iff.1 hb).1
            exact K4 b o (app_of (by rw [hH]; exact set_ne (hI.sub b o hb) (by omega)) _) (fun n c e => by simp at e <;> omega)
           ·rw [nth_set hc3]
            by_cases e : j = c2
            ·rw [if_pos e]; right; omega
            ·rw [if_neg e]; exact hI.val j hj
           ·rw [nth_set hc3]
            by_cases e : j = c2
            ·rw [if_pos e]; omega
            ·rw [if_neg e]; exact hI.done j hj
           ·obtain ⟨i', a1, a2⟩ := hI.surj j hj
            exact ⟨i', a1, by rw [nth_set hc3, if_neg (fun e => by rw [e] at a2; omega)]; exact a2⟩
           ·exact ⟨⟨rfl, by simp⟩, by omega⟩
          ·simp [g0, g4, g6, g29, g30, g8, g9, g50, hq', hm, rd_def, hqat, intsC_get hm, hc, DC_of hr1, partL, hat, hc2n, intsC_get hc3, hf, hw]
           exact ⟨kk3 - 1, by omega, q + 1, by omega, xs, hI, qs, qb, hq, hB.skip hG hm hc hq4 (by rw [← hc2]; omega), hm, hcnt, ⟨rfl, rfl⟩, by omega⟩
         ·have hq5 : q = 4 := by omega
          subst hq5
          have hw : IntKind.i64.wrap ((m : Int) + 1) = (m : Int) + 1 := by rw [w64_id] <;> omega
          simp [g0, g4, g6, g29, g30, g8, g9, g50, hw]
          exact ⟨kk2 - 1, by omega, m + 1, by omega, xs, hI, qs, qb, hq, hB.next, by omega, by omega, hcnt, ⟨rfl, rfl⟩, by omega⟩
        ·exact ⟨0, h, xs, qs, qb, by omega, rfl, hI, hq, hB, hm, hcnt, by simp [g0, g4, g6, g29, g30, g8, g9]⟩
       ·have hmm : m = qs.length := by omega
        have hw : IntKind.i64.wrap ((i : Int) + 1) = (i : Int) + 1 := by rw [w64_id] <;> omega
        have hw2 : IntKind.i64.wrap ((cnt : Int) + 1) = (cnt : Int) + 1 := by rw [w64_id] <;> omega
        simp [g0, g4, g6, g29, g30, g8, g9, hm, hw, hw2]
        refine ⟨kk - 1, by omega, i + 1, by omega, xs, cnt + 1, ⟨hI.sub, hI.at_, hI.len, fun j hj => ?_, hI.done, by omega, fun j hj => hI.surj j (by omega)⟩, by have := hB.finish hG hmm hi; simpa using this, by omega, by omega, by omega⟩
        rcases hI.val j hj with h | h
        ·exact .inl h
        ·right; omega
      ·refine ⟨0, _, xs.set i cnt, [(i : Int)], h.length, by omega, rfl, ⟨?_, app_of (set_self hat) _, by simp [hlen], fun j hj => ?_, fun j hj => ?_, by omega, fun j hj => ?_⟩, ⟨by simp [intsC], .inr ⟨h.length, 0, rfl, ?_, ?_, .inl rfl⟩⟩, BI.start hC hlen hi hneg (by omega) (fun j hj => by rcases hI.val j hj with h | h <;> omega), by simp, by simp, by simp; omega, ?_⟩
       ·exact (hI.sub.set (Nat.le_refl _) _).app _
       ·rw [nth_set hi2]
        by_cases e : j = i
        ·rw [if_pos e]; right; omega
        ·rw [if_neg e]
         rcases hI.val j hj with h | h
         ·exact .inl h
         ·right; omega
       ·rw [nth_set hi2]
        by_cases e : j = i
        ·rw [if_pos e]; omega
        ·rw [if_neg e]; exact hI.done j (by omega)
       ·by_cases e : j = cnt
        ·exact ⟨i, hi, by rw [nth_set hi2, if_pos rfl, e]⟩
        ·obtain ⟨i', a1, a2⟩ := hI.surj j (by omega)
         exact ⟨i', a1, by rw [nth_set hi2, if_neg (fun e => by rw [e] at a2; omega)]; exact a2⟩
       ·have := (List.getElem?_eq_some_iff.1 hat).1; omega
       ·rw [← hlset, app_at0]; rfl
       ·simp [g0, g4, g6, g29, g30]
    ·have hin : i = G.n := by omega
     simp [g0, g4, g6, g29, g30, hi, endK_ret]
     unfold pairQ back
     rw [if_neg (by simp [Out.scalar, scalar, flat1, flat])]
     rw [hin] at hI
     exact ⟨xs, cnt, rfl, Nat.le_refl _, hI, by omega, hC⟩
   ·exact ⟨0, h, xs, 0, by omega, rfl, hPI, ⟨fun j q hj hq h1 h2 => by have := hm j (by omega); omega, fun j j' hj hj' h1 h2 h3 => by have := hm j (by omega); omega⟩, by omega, by simp [g0, g4]⟩
 ·refine ⟨0, _, List.replicate G.n 0, by omega, rfl, (Sub.refl h0).app _, ?_, by simp, fun j h => by omega, by simp⟩
  rw [app_at0]
  simp [rep, intsC]
end Go.Proofs.Ytjlkndkedknocaa
namespace Go.Ai
attribute [local instance] Classical.propDecidable
noncomputable def cntP (p : Nat → Prop) : Nat → Nat
 | 0 => 0
 | i + 1 => cntP p i + if p i then 1 else 0
theorem cntP_congr {p q : Nat → Prop} : ∀ {n : Nat}, (∀ i, i < n → (p i ↔ q i)) → cntP p n = cntP q n := by
 intro n
 induction n with
 | zero => intro _; rfl
 | succ n ih =>
  intro h
  simp only [cntP, ih fun i hi => h i (by omega)]
  by_cases hp : p n
  ·rw [if_pos hp, if_pos ((h n (by omega)).1 hp)]
  ·rw [if_neg hp, if_neg fun hq => hp ((h n (by omega)).2 hq)]
theorem cntP_le (p : Nat → Prop) : ∀ n, cntP p n ≤ n := by
 intro n
 induction n with
 | zero => exact Nat.le_refl _
 | succ n ih => simp only [cntP]; split <;> omega
theorem cntP_mono (p : Nat → Prop) {m n : Nat} (h : m ≤ n) : cntP p m ≤ cntP p n := by
 induction h with
 | refl => exact Nat.le_refl _
 | step _ ih => simp only [cntP]; omega
theorem cntP_pos {p : Nat → Prop} {n i : Nat} (hi : i < n) (hp : p i) : 0 < cntP p n := by
 have h := cntP_mono p (show i + 1 ≤ n by omega)
 simp only [cntP, if_pos hp] at h
 omega
theorem cntP_zero {p : Nat → Prop} {n : Nat} (h : ∀ i, i < n → ¬ p i) : cntP p n = 0 := by
 induction n with
 | zero => rfl
 | succ n ih => simp only [cntP, ih fun i hi => h i (by omega), if_neg (h n (by omega))]
theorem cntP_all {p : Nat → Prop} {n : Nat} (h : ∀ i, i < n → p i) : cntP p n = n := by
 induction n with
 | zero => rfl
 | succ n ih => simp only [cntP, ih fun i hi => h i (by omega), if_pos (h n (by omega))]
theorem DC_q {E : Env} {f : FuncId} {args : List Value} {o : Out} (hq : ∀ h, DR E f args ⟨h, h.length⟩ o ⟨h, h.length⟩) {h : List O} {fl : Nat} (e : fl = h.length) {Q : Out → St → Prop} : DC E f args ⟨h, fl⟩ Q ↔ Q o ⟨h, fl⟩ := by
 subst e; exact DC_of (hq h)
def pairO : Option Value → Option Value → Option Value
 | some a, some b => some (.tuple #[a, b])
 | _, _ => none
@[simp] theorem pairO_some {a b : Value} : pairO (some a) (some b) = some (.tuple #[a, b]) := rfl
@[simp] theorem resV_cc {fr : Fr} {h : List O} {a b : Nat} {n m : Option Nat} : resV fr h [.cell a n, .cell b m] = pairO (resOne fr h (.cell a n)) (resOne fr h (.cell b m)) := by
 simp only [resV, resAll]
 cases resOne fr h (.cell a n) <;> cases resOne fr h (.cell b m) <;> rfl
@[simp] theorem resV_ct {fr : Fr} {h : List O} {a t : Nat} {n : Option Nat} : resV fr h [.cell a n, .tmp t] = pairO (resOne fr h (.cell a n)) (some (get fr t)) := by
 simp only [resV, resAll]
 cases resOne fr h (.cell a n) <;> rfl
theorem set_same {h : List O} {b : Nat} {o : O} (hb : h[b]? = some o) : h.set b o = h := by
 obtain ⟨h1, h2⟩ := List.getElem?_eq_some_iff.1 hb
 rw [← h2]; exact List.set_getElem_self h1
def sliceAV (h : List O) (len size : Nat) (v : Value) (lo hi mx : Option Value) : Option Value := match v with
 | .pointer (some ⟨b, i, none⟩) => sliceV h size (.slice (some ⟨b, i, none⟩) len len) lo hi mx
 | _ => none
@[simp] theorem sliceAV_ptr {h : List O} {len size b i : Nat} {lo hi mx : Option Value} : sliceAV h len size (.pointer (some ⟨b, i, none⟩)) lo hi mx = sliceV h size (.slice (some ⟨b, i, none⟩) len len) lo hi mx := rfl
@[simp] theorem step_sliceA {len size : Nat} {x : Operand} {lo hi mx : Option Operand} {e : Operand → Value} {st : St} : step (.sliceA len size x lo hi mx) e st = valS (sliceAV st.h len size (e x) (lo.map e) (hi.map e) (mx.map e)) st := by
 simp only [step, sliceAV]; (repeat' split) <;> simp_all [valS]
@[simp] theorem DL_sliceA {E : Env} {len size : Nat} {x : Operand} {lo hi mx : Option Operand} {dst : Option Nat} {anc : Nat} {os : List ROper} {fr : Fr} {st : St} {Q : Post} : DL E (⟨dst, none, .sliceA len size x lo hi mx, anc⟩ :: os) fr st Q ↔ resQ (step (.sliceA len size x lo hi mx) (ev fr) st) (stepK E dst os fr Q) := (DL_step' rfl).trans stepW_res
theorem sliceV_full {h : List O} {size b i n : Nat} {cs : List Value} {el : TypeId} (hb : h[b]? = some (.cells cs el (some 0))) : sliceV h size (.slice (some ⟨b, i, none⟩) n n) none none none = some (.slice (some ⟨b, i, none⟩) n n) := by
 simp [sliceV, mxB, hiB, loB, sliceA, tagOk, hb]
def AtB (h : List O) (b : Nat) (o : O) : Prop := h[b]? = some o
theorem joined_fl {st st' : St} (h : st.h.length ≤ st'.fl) : joined st st' = ⟨st'.h, st.fl⟩ := by
 simp only [joined]
 rw [if_neg (by omega)]
end Go.Ai
namespace Go.Proofs.Ytjlkndkedknocaa
open Go Go.Ai
attribute [local instance] Classical.propDecidable
noncomputable def regs (G : Dg) : List (List (Nat × Nat)) := (vis G (4 * G.n)).2
noncomputable def rhead (G : Dg) (t : Nat) : Nat := (((regs G).getD t []).headD (0, 0)).1
def PlanG (G : Dg) : Prop := ∀ c, c < G.n → cntP (fun t => Conn G c (rhead G t)) (regs G).length = 2 + cntP (fun i => Conn G c i) G.n
theorem vis_reg {G : Dg} (hG : GoodG G) : ∀ j, j ≤ 4 * G.n → ∀ r ∈ (vis G j).2, ∃ e, InV G e ∧ r = orbL G e := by
 intro j
 induction j with
 | zero => intro _ r hr; simp [vis] at hr
 | succ j ih =>
  intro hj r hr
  simp only [vis] at hr
  split at hr
  ·exact ih (by omega) r hr
  ·simp only [List.mem_append, List.mem_singleton] at hr
   rcases hr with hr | rfl
   ·exact ih (by omega) r hr
   ·exact ⟨endOf j, hG.inV (by simp [endOf]; omega) (by simp [endOf]; omega), rfl⟩
theorem orbL_head {G : Dg} (hG : GoodG G) {e : Nat × Nat} (he : InV G e) : ∃ l, orbL G e = e :: l := by
 have hp := (per_spec hG he).1.1
 obtain ⟨k, hk⟩ : ∃ k, per G e = k + 1 := ⟨per G e - 1, by omega⟩
 refine ⟨(List.range k).map fun i => orb G e (i + 1), ?_⟩
 unfold orbL orbN
 rw [hk, List.range_succ_eq_map]
 simp [orb]
theorem regs_at {G : Dg} (hG : GoodG G) {t : Nat} (ht : t < (regs G).length) : ∃ e l, InV G e ∧ (regs G)[t]? = some (e :: l) ∧ e :: l = orbL G e ∧ rhead G t = e.1 := by
 have hm : (regs G)[t] ∈ regs G := List.getElem_mem ht
 obtain ⟨e, he, hr⟩ := vis_reg hG _ (Nat.le_refl _) _ hm
 obtain ⟨l, hl⟩ := orbL_head hG he
 refine ⟨e, l, he, by rw [List.getElem?_eq_getElem ht, hr, hl], hl.symm, ?_⟩
 unfold rhead
 simp [ht, hr, hl]
theorem rhead_lt {G : Dg} (hG : GoodG G) {t : Nat} (ht : t < (regs G).length) : rhead G t < G.n := by
 obtain ⟨e, l, he, _, _, h⟩ := regs_at hG ht
 rw [h]; exact he.1
theorem regs_len {G : Dg} : (regs G).length ≤ 4 * G.n := vis_len G _
theorem RegsP.look {G : Dg} (hG : GoodG G) {h : List O} {lo : Nat} {v : Value} (hr : RegsP h lo v (regs G)) : ∃ a, v = .slice a (regs G).length (regs G).length ∧
  ∀ t, t < (regs G).length → ∃ b b' n, a = some ⟨b, 0, none⟩ ∧ lo ≤ b ∧ lo ≤ b' ∧ 0 < n ∧ (∃ cs, h[b]? = some (.cells cs 215 (some 1)) ∧ cs[t]? = some (.slice (some ⟨b', 0, none⟩) n n)) ∧
   ∃ cs, h[b']? = some (.cells (.int .i64 (rhead G t) :: cs) 72 (some 2)) := by
 obtain ⟨vs, ⟨hl, hv⟩, hrs⟩ := hr
 rcases hv with ⟨rfl, h0⟩ | ⟨b, rfl, hb, hcell⟩
 ·exact ⟨none, by rw [h0], fun t ht => by omega⟩
 ·refine ⟨_, rfl, fun t ht => ?_⟩
  obtain ⟨e, l, he, hg, hl2, hrh⟩ := regs_at hG ht
  obtain ⟨v', h1, h2, h3⟩ := hrs t _ hg
  rcases h3 with ⟨rfl, h4⟩ | ⟨b', rfl, hb', hc'⟩
  ·simp at h4
  ·refine ⟨b, b', (e :: l).length, rfl, hb, hb', by simp, ⟨vs, hcell, h1⟩, .int .i64 e.2 :: cellsL l, ?_⟩
   rw [hc', hrh]
   rfl
end Go.Proofs.Ytjlkndkedknocaa
namespace Go.Proofs.Ytjlkndkedknocaa
open Go Go.Ai
attribute [local instance] Classical.propDecidable
theorem crossC_toNat {n : Nat} {x : Nat → Nat → Int} {s : Nat → Int} {L : Int} (hS : Snd n x s L) {i : Nat} (hi : i < n) : crossC (x i) (s i) = crossC (fun j => ((x i j).toNat : Int)) (s i) := by
 have hr : ∀ q, q < 4 → 0 ≤ x i q := fun q hq => by
  have := (hS.range (4 * i + q) (by omega)).1
  unfold use at this
  rw [show (4 * i + q) / 4 = i by omega, show (4 * i + q) % 4 = q by omega] at this
  exact this
 have h : ∀ q, q < 4 → x i q = ((x i q).toNat : Int) := fun q hq => by have := hr q hq; omega
 simp only [crossC]
 rw [← h 0 (by omega), ← h 1 (by omega), ← h 2 (by omega), ← h 3 (by omega)]
variable {E : Env} (hE : OE E)
include hE
theorem enter_ {h0 : List O} {a : Option Addr} {n c : Nat} {x : Nat → Nat → Int} {s : Nat → Int} {L : Int} (hx : CrossP h0 a n x s) :
  DC E 157 [dV a n c L] ⟨h0, h0.length⟩ fun o st' =>
   (Snd n x s L ∧ PlanG (dgOf n x s L) ∧ ∃ p, o = .ret (.tuple #[.pointer (some ⟨p, 0, none⟩), .int .i64 0]) ∧ DiagP st'.h p (dgOf n x s L) ∧ Sub h0 st'.h ∧ h0.length ≤ st'.fl ∧ h0.length ≤ p) ∨
   (Snd n x s L ∧ ¬ PlanG (dgOf n x s L) ∧ o = .ret (.tuple #[.pointer none, .int .i64 221]) ∧ st' = ⟨h0, h0.length⟩) ∨
   (¬ Snd n x s L ∧ o = .ret (.tuple #[.pointer none, .int .i64 220]) ∧ st' = ⟨h0, h0.length⟩) := by
 refine hE.fnC (body := rb157) rfl ?_
 unfold rb157
 have hx1 : CrossP (h0 ++ [O.cells [.slice a n c, .int .i64 L] 24 (some 0)]) a n x s := hx.ext (Ext.snoc _ _)
 simp [dV, rdN_at0]
 have h1 := ends109 hE (c := c) (L := L) hx1
 simp [dV] at h1
 refine h1.imp ?_
 rintro o st' (⟨hS, ta, rfl, hT, hs, hf⟩ | ⟨hS, rfl, rfl⟩)
 ·obtain ⟨h1, f1⟩ := st'
  simp only at hT hs hf
  have hB : h1[h0.length]? = some (O.cells [.slice a n c, .int .i64 L] 24 (some 0)) := hs _ _ (app_at0 _ _)
  have hs0 : Sub h0 h1 := ((Sub.refl h0).app _).trans hs
  have hl0 := hs0.len
  obtain ⟨G, hGe⟩ : ∃ G, G = dgOf n x s L := ⟨_, rfl⟩
  have hG : GoodG G := by rw [hGe]; exact good_of hS
  have hGn : G.n = n := by rw [hGe]; rfl
  have hsz := hG.size
  rw [← hGe]
  simp [joined_fl, hf, rdN_def, hB]
  obtain ⟨h2, hh2⟩ : ∃ H, H = h1 ++ [O.cells [.slice a n c, .int .i64 L, .slice ta (2 * n) (2 * n)] 200 (some 0)] := ⟨_, rfl⟩
  have hs2 : Sub h1 h2 := by rw [hh2]; exact (Sub.refl _).app _
  have l2 : h2.length = h1.length + 1 := by rw [hh2]; simp
  have hd : DiagP h2 h1.length G := by
   refine ⟨a, c, ta, 2 * n, 200, some 0, ?_, ?_, ?_⟩
   ·rw [hh2, app_at0, hGe]; rfl
   ·obtain ⟨b, o, k1, k2⟩ := (hx.sub (hs0.trans hs2))
    refine ⟨b, o, by rw [hGn]; exact k1, fun i hi => ?_⟩
    rw [hGn] at hi
    rw [k2 i hi, crossC_toNat hS hi, hGe]; rfl
   ·rw [hGn, hGe]; exact hT.sub hs2
  rw [← hh2, ← l2]
  refine (pieces110 hE hG hd).imp ?_
  rintro o ⟨h3, f3⟩ ⟨xs, k, rfl, hf3, hPI, hk, hCI⟩
  simp only at hf3 hPI
  have hl3 := hPI.sub.len
  have e1 : (k : Int) * 8 ≤ 140737488355328 := by omega
  have e2 : (k : Int) < 4611686018427387904 := by omega
  simp [joined_fl, hf3, e1, e2]
  have hlx := hPI.len
  have hxv : ∀ i, i < G.n → ∃ j : Nat, nth xs i = j ∧ j < k := fun i hi => by
   have h1 := hPI.done i hi
   rcases hPI.val i hi with h2 | h2
   ·omega
   ·exact ⟨(nth xs i).toNat, by omega, by omega⟩
  have ha2 := hPI.at_
  have h23 := (List.getElem?_eq_some_iff.1 ha2).1
  refine DW_loop (fun kk fr st => ∃ (i : Nat) (h : List O) (lf : List Int), i + kk = k ∧ st = ⟨h, h0.length⟩ ∧ Sub h3 h ∧ h[h3.length]? = some (.cells (intsC lf) 3 (some 0)) ∧ lf.length = k ∧ (∀ j, j < i → nth lf j = 2) ∧ get fr 6 = .pointer (some ⟨h1.length, 0, none⟩) ∧ get fr 7 = .slice (some ⟨h2.length, 0, none⟩) G.n G.n ∧ get fr 9 = .slice (some ⟨h3.length, 0, none⟩) k k ∧ get fr 36 = .int .i64 k ∧ get fr 37 = .int .i64 i) ?_ (k := k) ?_
  ·rintro kk fr st ⟨i, h, lf, hik, rfl, hsub, hat, hlf, hF, g6, g7, g9, g36, g37⟩
   have hsl := hsub.len
   by_cases hi : i < k
   ·have hw : IntKind.i64.wrap ((i : Int) + 1) = (i : Int) + 1 := by rw [w64_id] <;> omega
    have hi2 : i < lf.length := by omega
    have hi3 : i + 1 ≤ k := by omega
    have hmin : min h0.length h3.length = h0.length := by omega
    simp [g6, g7, g9, g36, g37, hi, wrN_def, hat, hlf, intsC_set, hw, hi3, hmin]
    refine ⟨kk - 1, by omega, i + 1, by omega, hsub.set (Nat.le_refl _) _, lf.set i 2, set_self hat, by simp [hlf], fun j hj => ?_, by omega⟩
    rw [nth_set hi2]
    by_cases e : j = i
    ·rw [if_pos e]
    ·rw [if_neg e]; exact hF j (by omega)
   ·have hin : i = k := by omega
    subst hin
    simp [g6, g7, g9, g36, g37]
    have hlb : ∀ lf : List Int, lf.length = i → ∀ j, j < i → j < lf.length ∧ j + 1 ≤ i := fun lf h j hj => ⟨by omega, by omega⟩
    refine DW_loop (fun kk fr st => ∃ (m : Nat) (h : List O) (lf : List Int), m + kk = G.n ∧ st = ⟨h, h0.length⟩ ∧ Sub h3 h ∧ h[h3.length]? = some (.cells (intsC lf) 3 (some 0)) ∧ lf.length = i ∧ (∀ j : Nat, j < i → nth lf j = 2 + cntP (fun i' => nth xs i' = j) m) ∧ get fr 6 = .pointer (some ⟨h1.length, 0, none⟩) ∧ get fr 7 = .slice (some ⟨h2.length, 0, none⟩) G.n G.n ∧ get fr 9 = .slice (some ⟨h3.length, 0, none⟩) i i ∧ get fr 44 = .slice (some ⟨h2.length, 0, none⟩) G.n G.n ∧ get fr 45 = .int .i64 G.n ∧ get fr 46 = .int .i64 m) ?_ (k := G.n) ?_
    ·clear g6 g7 g9 g36 g37 hF hlf hat hsub hsl
     clear h lf
     rintro kk fr st ⟨m, h, lf, hik, rfl, hsub, hat, hlf, hF, g6, g7, g9, g44, g45, g46⟩
     have hsl := hsub.len
     have hx2 := hsub _ _ ha2
     have hmin : min h0.length h3.length = h0.length := by omega
     by_cases hm : m < G.n
     ·have hw : IntKind.i64.wrap ((m : Int) + 1) = (m : Int) + 1 := by rw [w64_id] <;> omega
      have hmx : m < xs.length := by omega
      obtain ⟨j0, hj0, hj1⟩ := hxv m hm
      obtain ⟨hj2, hj3⟩ := hlb lf hlf j0 hj1
      have hcl := cntP_le (fun i' => nth xs i' = (j0 : Int)) m
      have hw2 : IntKind.i64.wrap (nth lf j0 + 1) = nth lf j0 + 1 := by rw [w64_id] <;> have := hF j0 hj1 <;> omega
      simp [g6, g7, g9, g44, g45, g46, hm, rd_def, hx2, intsC_get hmx, hj0, hj1, hat, intsC_get hj2, wrN_def, hlf, intsC_set, hw, hw2, hj3, hmin]
      refine ⟨kk - 1, by omega, m + 1, by omega, hsub.set (Nat.le_refl _) _, lf.set j0 (nth lf j0 + 1), set_self hat, by simp [hlf], fun j hj => ?_, by omega⟩
      rw [nth_set hj2, hF j hj]
      simp only [cntP, hj0]
      by_cases e : j = j0
      ·subst e
       rw [if_pos rfl, if_pos rfl, hF j hj]
       omega
      ·rw [if_neg e, if_neg (by omega)]; omega
     ·have hmn : m = G.n := by omega
      subst hmn
      simp [g6, g7, g9, g44, g45, g46]
      have hd4 : DiagP h h1.length G := hd.sub (hPI.sub.trans hsub)
      refine (regions111 hE hG hd4).imp ?_
      rintro o ⟨h5, f5⟩ ⟨v, rfl, hf5, hs5, hR⟩
      simp only at hf5 hs5 hR
      obtain ⟨ra, rfl, hlook⟩ := RegsP.look hG hR
      have h3h := (List.getElem?_eq_some_iff.1 hat).1
      have hat5 := hs5 _ _ hat
      have hs25 : Sub h2 h5 := hPI.sub.trans (hsub.trans hs5)
      have hx5 := hs5 _ _ hx2
      have hd5 := hd4.sub hs5
      have hl5 := hs5.len
      have hrl : (regs G).length ≤ 4 * G.n := regs_len
      have hs05 : Sub h0 h5 := hs0.trans (hs2.trans (hPI.sub.trans (hsub.trans hs5)))
      simp [joined_fl, hf5]
      refine DW_loop (fun kk fr st => ∃ (t : Nat) (h : List O) (lf : List Int), t + kk = (regs G).length ∧ st = ⟨h, h0.length⟩ ∧ (∀ (b : Nat) (o : O), h5[b]? = some o → b ≠ h3.length → h[b]? = some o) ∧ h[h3.length]? = some (.cells (intsC lf) 3 (some 0)) ∧ lf.length = i ∧ (∀ j : Nat, j < i → nth lf j = 2 + cntP (fun i' => nth xs i' = j) G.n - cntP (fun t' => nth xs (rhead G t') = j) t) ∧ get fr 6 = .pointer (some ⟨h1.length, 0, none⟩) ∧ get fr 7 = .slice (some ⟨h2.length, 0, none⟩) G.n G.n ∧ get fr 9 = .slice (some ⟨h3.length, 0, none⟩) i i ∧ get fr 58 = .slice ra (regs G).length (regs G).length ∧ get fr 59 = .int .i64 (regs G).length ∧ get fr 60 = .int .i64 t) ?_ (k := (regs G).length) ?_
      ·clear g6 g7 g9 g44 g45 g46
       rintro kk fr st ⟨t, h', lf, hik, rfl, hsub', hat, hlf, hF, g6, g7, g9, g58, g59, g60⟩
       have hx2 := hsub' _ _ hx5 (by omega)
       have hmin : min h0.length h3.length = h0.length := by omega
       by_cases ht : t < (regs G).length
       ·have hw : IntKind.i64.wrap ((t : Int) + 1) = (t : Int) + 1 := by rw [w64_id] <;> omega
        obtain ⟨rb, rb', rn, rfl, hb1, hb2, hrn, ⟨cs, hc1, hc2⟩, cs', hc3⟩ := hlook t ht
        have hc1' := hsub' _ _ hc1 (by omega)
        have hc3' := hsub' _ _ hc3 (by omega)
        have hrh := rhead_lt hG ht
        have hrx : rhead G t < xs.length := by omega
        obtain ⟨j0, hj0, hj1⟩ := hxv _ hrh
        obtain ⟨hj2, hj3⟩ := hlb lf hlf j0 hj1
        have hcl := cntP_le (fun i' => nth xs i' = (j0 : Int)) G.n
        have hcl2 := cntP_le (fun t' => nth xs (rhead G t') = (j0 : Int)) t
        have hw2 : IntKind.i64.wrap (nth lf j0 - 1) = nth lf j0 - 1 := by rw [w64_id] <;> have := hF j0 hj1 <;> omega
        simp [g6, g7, g9, g58, g59, g60, ht, rd_def, hc1', hc2, hrn, hc3', hrh, hx2, intsC_get hrx, hj0, hj1, hat, intsC_get hj2, wrN_def, hlf, intsC_set, hw, hw2, hj3, hmin]
        refine ⟨kk - 1, by omega, t + 1, by omega, fun b o hb hn => set_ne (hsub' b o hb hn) hn, lf.set j0 (nth lf j0 - 1), set_self hat, by simp [hlf], fun j hj => ?_, by omega⟩
        rw [nth_set hj2, hF j hj]
        simp only [cntP, hj0]
        by_cases e : j = j0
        ·subst e
         rw [if_pos rfl, if_pos rfl, hF j hj]
         omega
        ·rw [if_neg e, if_neg (by omega)]; omega
       ·have htn : t = (regs G).length := by omega
        subst htn
        have hiff : PlanG G ↔ ∀ j : Nat, j < i → nth lf j = 0 := by
         have key : ∀ c, c < G.n → ∀ j : Nat, nth xs c = j → ((cntP (fun t => Conn G c (rhead G t)) (regs G).length = 2 + cntP (fun i => Conn G c i) G.n) ↔ nth lf j = 0) := fun c hc j hj => by
          have hall : ∀ j, j < G.n → 0 ≤ nth xs j ∧ nth xs j < (i : Int) := fun j hj => by obtain ⟨q, h1, h2⟩ := hxv j hj; omega
          have c1 : cntP (fun t => Conn G c (rhead G t)) (regs G).length = cntP (fun t' => nth xs (rhead G t') = j) (regs G).length := cntP_congr fun t ht => by
           have := hCI.iff hG hall hc (rhead_lt hG ht)
           rw [← this, hj]; exact eq_comm
          have c2 : cntP (fun i => Conn G c i) G.n = cntP (fun i' => nth xs i' = j) G.n := cntP_congr fun i' hi' => by
           have := hCI.iff hG hall hc hi'
           rw [← this, hj]; exact eq_comm
          obtain ⟨q, q1, q2⟩ := hxv c hc
          have hjk : j < i := by omega
          rw [c1, c2, hF j hjk]
          omega
         constructor
         ·intro hp j hj
          obtain ⟨c, hc, hcj⟩ := hPI.surj j (by omega)
          exact (key c hc j hcj).1 (hp c hc)
         ·intro hz c hc
          obtain ⟨j, h1, h2⟩ := hxv c hc
          exact (key c hc j h1).2 (hz j h2)
        simp [g6, g7, g9, g58, g59, g60]
        refine DW_loop (fun kk fr st => ∃ (j : Nat), j + kk = i ∧ st = ⟨h', h0.length⟩ ∧ (∀ j', j' < j → nth lf j' = 0) ∧ get fr 6 = .pointer (some ⟨h1.length, 0, none⟩) ∧ get fr 77 = .slice (some ⟨h3.length, 0, none⟩) i i ∧ get fr 78 = .int .i64 i ∧ get fr 79 = .int .i64 j) ?_ (k := i) ?_
        ·clear g6 g7 g9 g58 g59 g60
         rintro kk fr st ⟨j, hjk, rfl, hz, g6, g77, g78, g79⟩
         by_cases hj : j < i
         ·have hw : IntKind.i64.wrap ((j : Int) + 1) = (j : Int) + 1 := by rw [w64_id] <;> omega
          have hj2 : j < lf.length := by omega
          by_cases hzj : nth lf j = 0
          ·simp [g6, g77, g78, g79, hj, rd_def, hat, intsC_get hj2, hzj, hw]
           refine ⟨kk - 1, by omega, j + 1, by omega, fun j' hj' => ?_, by omega⟩
           by_cases e : j' = j
           ·rw [e]; exact hzj
           ·exact hz j' (by omega)
          ·simp [g6, g77, g78, g79, hj, rd_def, hat, intsC_get hj2, hzj, hw]
           unfold pairQ
           rw [back_scalar (by simp [Out.scalar, scalar, flat1, flat]) (Nat.le_refl _)]
           exact .inr (.inl ⟨hS, fun hp => hzj (hiff.1 hp j hj), rfl, rfl⟩)
         ·have hji : j = i := by omega
          subst hji
          simp [g6, g77, g78, g79]
          unfold pairQ back
          rw [if_neg (by simp [Out.scalar, scalar, flat1, flat])]
          refine .inl ⟨hS, hiff.2 hz, h1.length, rfl, ?_, fun b o hb => ?_, Nat.le_refl _, hl0⟩
          ·exact hd.sub fun b o hb => hsub' _ _ (hs25 b o hb) (by have := (List.getElem?_eq_some_iff.1 hb).1; omega)
          ·have := (List.getElem?_eq_some_iff.1 hb).1
           exact hsub' _ _ (hs05 b o hb) (by omega)
        ·exact ⟨0, by omega, rfl, fun j h => by omega, by simp [g6]⟩
      ·exact ⟨0, h5, lf, by omega, rfl, fun b o hb _ => hb, hat5, hlf, fun j hj => by rw [hF j hj]; simp [cntP], by simp [g6, g7, g9]⟩
    ·exact ⟨0, h, lf, by omega, rfl, hsub, hat, hlf, fun j hj => by rw [hF j hj]; simp [cntP], by simp [g6, g7, g9]⟩
  ·refine ⟨0, _, List.replicate k 0, by omega, rfl, (Sub.refl h3).app _, ?_, by simp, fun j h => by omega, by simp⟩
   rw [app_at0]
   simp [rep, intsC]
 ·simp [rdN_at0]
  unfold pairQ
  rw [back_scalar (by simp [Out.scalar, scalar, flat1, flat]) (by simp [joined])]
  exact .inr (.inr ⟨hS, rfl, rfl⟩)
end Go.Proofs.Ytjlkndkedknocaa
namespace Go.Ai
attribute [local instance] Classical.propDecidable
structure Numb (N : Nat) (R : Nat → Nat → Prop) (f : Nat → Nat) (cnt : Nat) : Prop where
 rel : ∀ a b, a < N → b < N → (f a = f b ↔ R a b)
 lt : ∀ a, a < N → f a < cnt
 ord : ∀ j, j < cnt → ∃ a, a < N ∧ f a = j ∧ ∀ b, b < a → f b < j
theorem Numb.before {N : Nat} {R : Nat → Nat → Prop} {f : Nat → Nat} {c : Nat} (h : Numb N R f c) {a : Nat} (ha : a < N) (hn : ∀ b, b < a → ¬ R a b) (v : Nat) : v < f a ↔ ∃ b, b < a ∧ f b = v := by
 obtain ⟨a', h1, h2, h3⟩ := h.ord _ (h.lt a ha)
 have haa : a' = a := by
  rcases Nat.lt_trichotomy a' a with h4 | h4 | h4
  ·exact absurd ((h.rel a a' ha h1).1 h2.symm) (hn a' h4)
  ·exact h4
  ·have := h3 a h4; omega
 subst haa
 constructor
 ·intro hv
  obtain ⟨b, h4, h5, h6⟩ := h.ord v (Nat.lt_trans hv (h.lt a' ha))
  rcases Nat.lt_trichotomy b a' with h7 | h7 | h7
  ·exact ⟨b, h7, h5⟩
  ·subst h7; omega
  ·have := h6 a' h7; omega
 ·rintro ⟨b, h4, rfl⟩
  exact h3 b h4
theorem Numb.unique {N : Nat} {R : Nat → Nat → Prop} {f g : Nat → Nat} {c d : Nat} (h : Numb N R f c) (k : Numb N R g d) : (∀ a, a < N → f a = g a) ∧ c = d := by
 have heq : ∀ a, a < N → f a = g a := by
  intro a
  induction a using Nat.strongRecOn with
  | ind a ih =>
   intro ha
   by_cases hx : ∃ b, b < a ∧ R a b
   ·obtain ⟨b, h1, h2⟩ := hx
    rw [(h.rel a b ha (by omega)).2 h2, (k.rel a b ha (by omega)).2 h2]
    exact ih b h1 (by omega)
   ·have hn : ∀ b, b < a → ¬ R a b := fun b h1 h2 => hx ⟨b, h1, h2⟩
    have e : ∀ v, v < f a ↔ v < g a := fun v => by
     rw [h.before ha hn v, k.before ha hn v]
     constructor
     ·rintro ⟨b, h1, h2⟩; exact ⟨b, h1, by rw [← ih b h1 (by omega)]; exact h2⟩
     ·rintro ⟨b, h1, h2⟩; exact ⟨b, h1, by rw [ih b h1 (by omega)]; exact h2⟩
    have h1 := e (g a)
    have h2 := e (f a)
    omega
 refine ⟨heq, ?_⟩
 rcases Nat.lt_trichotomy c d with h1 | h1 | h1
 ·obtain ⟨a, a1, a2, _⟩ := k.ord c h1
  have := h.lt a a1
  rw [heq a a1] at this; omega
 ·exact h1
 ·obtain ⟨a, a1, a2, _⟩ := h.ord d h1
  have := k.lt a a1
  rw [← heq a a1] at this; omega
theorem Numb.congr {N : Nat} {R S : Nat → Nat → Prop} {f : Nat → Nat} {c : Nat} (h : Numb N R f c) (e : ∀ a b, a < N → b < N → (R a b ↔ S a b)) : Numb N S f c :=
 ⟨fun a b ha hb => (h.rel a b ha hb).trans (e a b ha hb), h.lt, h.ord⟩
theorem Numb.eqv {N : Nat} {R : Nat → Nat → Prop} {f g : Nat → Nat} {c : Nat} (h : Numb N R f c) (e : ∀ a, a < N → f a = g a) : Numb N R g c :=
 ⟨fun a b ha hb => by rw [← e a ha, ← e b hb]; exact h.rel a b ha hb, fun a ha => by rw [← e a ha]; exact h.lt a ha, fun j hj => by
  obtain ⟨a, h1, h2, h3⟩ := h.ord j hj
  exact ⟨a, h1, by rw [← e a h1]; exact h2, fun b hb => by rw [← e b (by omega)]; exact h3 b hb⟩⟩
structure PermN (N : Nat) (f : Nat → Nat) : Prop where
 lt : ∀ a, a < N → f a < N
 inj : ∀ a b, a < N → b < N → f a = f b → a = b
def itr (f : Nat → Nat) (a : Nat) : Nat → Nat
 | 0 => a
 | t + 1 => f (itr f a t)
theorem itr_add (f : Nat → Nat) (a s t : Nat) : itr f a (s + t) = itr f (itr f a s) t := by
 induction t with
 | zero => rfl
 | succ t ih => rw [← Nat.add_assoc]; simp only [itr, ih]
def SameO (f : Nat → Nat) (a b : Nat) : Prop := ∃ t, itr f a t = b
section
variable {N : Nat} {f : Nat → Nat} (h : PermN N f)
include h
theorem PermN.itr_lt {a : Nat} (ha : a < N) : ∀ t, itr f a t < N := by
 intro t
 induction t with
 | zero => exact ha
 | succ t ih => exact h.lt _ ih
theorem PermN.itr_inj {a b : Nat} (ha : a < N) (hb : b < N) : ∀ t, itr f a t = itr f b t → a = b := by
 intro t
 induction t with
 | zero => exact id
 | succ t ih => intro e; exact ih (h.inj _ _ (h.itr_lt ha t) (h.itr_lt hb t) e)
theorem PermN.period {a : Nat} (ha : a < N) : ∃ P, (0 < P ∧ itr f a P = a ∧ P ≤ N) ∧ ∀ t, 0 < t → t < P → itr f a t ≠ a := by
 have hex : ∃ m, 0 < m ∧ itr f a m = a ∧ m ≤ N := by
  obtain ⟨i, j, h1, h2, h3⟩ := Go.Proofs.Ytjlkndkedknocaa.pigeon N (itr f a) fun i _ => h.itr_lt ha i
  refine ⟨j - i, by omega, ?_, by omega⟩
  have e1 : itr f a j = itr f (itr f a (j - i)) i := by rw [← itr_add, Nat.sub_add_cancel (by omega)]
  rw [e1] at h3
  exact (h.itr_inj ha (h.itr_lt ha _) i h3).symm
 obtain ⟨m, h1, h2⟩ := Go.Proofs.Ytjlkndkedknocaa.least hex
 exact ⟨m, h1, fun i h3 h4 e => h2 i h4 ⟨h3, e, by omega⟩⟩
omit h in
theorem PermN.mul {a P : Nat} (hP : itr f a P = a) : ∀ k, itr f a (k * P) = a := by
 intro k
 induction k with
 | zero => simp [itr]
 | succ k ih => rw [Nat.succ_mul, itr_add, ih, hP]
omit h in
theorem PermN.refl (a : Nat) : SameO f a a := ⟨0, rfl⟩
omit h in
theorem SameO.trans {a b c : Nat} (h1 : SameO f a b) (h2 : SameO f b c) : SameO f a c := by
 obtain ⟨s, rfl⟩ := h1
 obtain ⟨t, rfl⟩ := h2
 exact ⟨s + t, itr_add _ _ _ _⟩
theorem PermN.symm {a b : Nat} (ha : a < N) (h1 : SameO f a b) : SameO f b a := by
 obtain ⟨s, rfl⟩ := h1
 obtain ⟨P, ⟨p1, p2, _⟩, _⟩ := h.period ha
 refine ⟨s * P - s, ?_⟩
 have hle : s ≤ s * P := Nat.le_mul_of_pos_right _ p1
 rw [← itr_add, Nat.add_sub_cancel' hle]
 exact PermN.mul p2 s
omit h in
theorem PermN.short {a b P : Nat} (hp : 0 < P) (hP : itr f a P = a) (h1 : SameO f a b) : ∃ t, t < P ∧ itr f a t = b := by
 obtain ⟨s, rfl⟩ := h1
 refine ⟨s % P, Nat.mod_lt _ hp, ?_⟩
 have : itr f a s = itr f a (P * (s / P) + s % P) := by rw [Nat.div_add_mod]
 rw [this, itr_add, Nat.mul_comm, PermN.mul hP]
theorem PermN.dist {a P s t : Nat} (ha : a < N) (hm : ∀ t, 0 < t → t < P → itr f a t ≠ a) (hst : s < t) (ht : t < P) : itr f a s ≠ itr f a t := fun e => by
 have e1 : itr f a t = itr f (itr f a (t - s)) s := by rw [← itr_add, Nat.sub_add_cancel (by omega)]
 rw [e1] at e
 exact hm (t - s) (by omega) (by omega) (h.itr_inj ha (h.itr_lt ha _) s e).symm
end
structure OrbI (N : Nat) (f : Nat → Nat) (i cnt : Nat) (xs : List Int) : Prop where
 len : xs.length = N
 val : ∀ j, j < N → nth xs j = -1 ∨ (0 ≤ nth xs j ∧ nth xs j < cnt)
 done : ∀ j, j < i → 0 ≤ nth xs j
 rel : ∀ a b, a < N → b < N → 0 ≤ nth xs a → (nth xs a = nth xs b ↔ SameO f a b)
 ord : ∀ j : Nat, j < cnt → ∃ a, a < N ∧ nth xs a = j ∧ ∀ b, b < a → nth xs b < j ∧ 0 ≤ nth xs b
structure OrbT (N : Nat) (f : Nat → Nat) (i cnt t : Nat) (xs0 xs : List Int) : Prop where
 len : xs.length = N
 at_ : ∀ j, nth xs j = if ∃ u, u < t ∧ itr f i u = j then (cnt : Int) else nth xs0 j
theorem OrbI.start {N : Nat} {f : Nat → Nat} {xs : List Int} (hl : xs.length = N) (hm : ∀ j, j < N → nth xs j = -1) : OrbI N f 0 0 xs :=
 ⟨hl, fun j hj => .inl (hm j hj), fun j hj => by omega, fun a b ha hb h0 => by rw [hm a ha] at h0; omega, fun j hj => by omega⟩
theorem OrbI.skip {N : Nat} {f : Nat → Nat} {i cnt : Nat} {xs : List Int} (h : OrbI N f i cnt xs) (hi : 0 ≤ nth xs i) : OrbI N f (i + 1) cnt xs :=
 ⟨h.len, h.val, fun j hj => by
  by_cases e : j = i
  ·rw [e]; exact hi
  ·exact h.done j (by omega), h.rel, h.ord⟩
theorem OrbT.start {N : Nat} {f : Nat → Nat} {i cnt : Nat} {xs : List Int} (h : OrbI N f i cnt xs) : OrbT N f i cnt 0 xs xs :=
 ⟨h.len, fun j => by rw [if_neg (by rintro ⟨u, h1, _⟩; omega)]⟩
theorem OrbT.next {N : Nat} {f : Nat → Nat} {i cnt t : Nat} {xs0 xs : List Int} (h : OrbT N f i cnt t xs0 xs) (ht : itr f i t < N) : OrbT N f i cnt (t + 1) xs0 (xs.set (itr f i t) cnt) :=
 ⟨by simp [h.len], fun j => by
  rw [nth_set (by rw [h.len]; exact ht)]
  by_cases e : itr f i t = j
  ·rw [if_pos e.symm, if_pos ⟨t, by omega, e⟩]
  ·rw [if_neg (fun x => e x.symm), h.at_]
   by_cases hx : ∃ u, u < t ∧ itr f i u = j
   ·obtain ⟨u, h1, h2⟩ := hx
    rw [if_pos ⟨u, h1, h2⟩, if_pos ⟨u, by omega, h2⟩]
   ·rw [if_neg hx, if_neg]
    rintro ⟨u, h1, h2⟩
    by_cases e2 : u = t
    ·subst e2; exact e h2
    ·exact hx ⟨u, by omega, h2⟩⟩
theorem OrbT.neg {N : Nat} {f : Nat → Nat} (hf : PermN N f) {i cnt t P : Nat} {xs0 xs : List Int} (h : OrbT N f i cnt t xs0 xs) (k : OrbI N f i cnt xs0) (hi : i < N) (hn : nth xs0 i < 0) (hm : ∀ t, 0 < t → t < P → itr f i t ≠ i) (ht : t < P) : nth xs (itr f i t) < 0 := by
 rw [h.at_, if_neg]
 ·have hl := hf.itr_lt hi t
  apply Classical.byContradiction
  intro h0
  have := (k.rel _ _ hl hi (by omega)).2 (hf.symm hi ⟨t, rfl⟩)
  omega
 ·rintro ⟨u, h1, h2⟩
  exact hf.dist hi hm h1 ht h2
theorem OrbT.finish {N : Nat} {f : Nat → Nat} (hf : PermN N f) {i cnt P : Nat} {xs0 xs : List Int} (h : OrbT N f i cnt P xs0 xs) (k : OrbI N f i cnt xs0) (hi : i < N) (hn : nth xs0 i < 0) (hp : 0 < P) (hP : itr f i P = i) : OrbI N f (i + 1) (cnt + 1) xs := by
 have hin : ∀ j, (∃ u, u < P ∧ itr f i u = j) ↔ SameO f i j := fun j => ⟨fun ⟨u, _, e⟩ => ⟨u, e⟩, fun e => PermN.short hp hP e⟩
 have hat : ∀ j, nth xs j = if SameO f i j then (cnt : Int) else nth xs0 j := fun j => by
  rw [h.at_]
  by_cases e : SameO f i j
  ·rw [if_pos e, if_pos ((hin j).2 e)]
  ·rw [if_neg e, if_neg fun x => e ((hin j).1 x)]
 have hneg : ∀ j, j < N → SameO f i j → nth xs0 j < 0 := fun j hj e => by
  apply Classical.byContradiction
  intro h0
  have := (k.rel _ _ hj hi (by omega)).2 (hf.symm hi e)
  omega
 refine ⟨h.len, fun j hj => ?_, fun j hj => ?_, fun a b ha hb h0 => ?_, fun j hj => ?_⟩
 ·rw [hat]
  split
  ·right; omega
  ·rcases k.val j hj with h1 | h1
   ·exact .inl h1
   ·right; omega
 ·rw [hat]
  split
  ·omega
  ·rename_i e
   by_cases e2 : j = i
   ·exact absurd (by rw [e2]; exact PermN.refl i) e
   ·exact k.done j (by omega)
 ·rw [hat] at h0
  rw [hat a, hat b]
  by_cases ea : SameO f i a
  ·rw [if_pos ea]
   by_cases eb : SameO f i b
   ·rw [if_pos eb]; exact ⟨fun _ => (hf.symm hi ea).trans eb, fun _ => rfl⟩
   ·rw [if_neg eb]
    constructor
    ·intro e
     rcases k.val b hb with h1 | h1 <;> omega
    ·intro e; exact absurd (ea.trans e) eb
  ·rw [if_neg ea] at h0 ⊢
   by_cases eb : SameO f i b
   ·rw [if_pos eb]
    constructor
    ·intro e
     rcases k.val a ha with h1 | h1 <;> omega
    ·intro e; exact absurd (eb.trans (hf.symm ha e)) ea
   ·rw [if_neg eb]; exact k.rel a b ha hb h0
 ·by_cases e : j = cnt
  ·refine ⟨i, hi, by rw [hat, if_pos (PermN.refl i), e], fun b hb => ?_⟩
   have h1 := k.done b hb
   have hbN : b < N := by omega
   have : ¬ SameO f i b := fun e => by have := hneg b hbN e; omega
   rw [hat, if_neg this]
   rcases k.val b hbN with h2 | h2 <;> omega
  ·obtain ⟨a, h1, h2, h3⟩ := k.ord j (by omega)
   have hold : ∀ b, b < N → 0 ≤ nth xs0 b → nth xs b = nth xs0 b := fun b hb h0 => by
    rw [hat, if_neg]
    intro e; have := hneg b hb e; omega
   refine ⟨a, h1, by rw [hold a h1 (by omega)]; exact h2, fun b hb => ?_⟩
   have := h3 b hb
   rw [hold b (by omega) this.2]; exact this
theorem OrbI.numb {N : Nat} {f : Nat → Nat} {cnt : Nat} {xs : List Int} (h : OrbI N f N cnt xs) : Numb N (SameO f) (fun a => (nth xs a).toNat) cnt :=
 ⟨fun a b ha hb => by
  have h1 := h.done a ha
  have h2 := h.done b hb
  rw [← h.rel a b ha hb h1]
  constructor
  ·intro e; omega
  ·intro e; rw [e], fun a ha => by
  have h1 := h.done a ha
  rcases h.val a ha with h2 | h2 <;> omega, fun j hj => by
  obtain ⟨a, h1, h2, h3⟩ := h.ord j hj
  exact ⟨a, h1, by rw [h2]; rfl, fun b hb => by have := h3 b hb; omega⟩⟩
end Go.Ai
namespace Go.Proofs.Ytjlkndkedknocaa
open Go Go.Ai
attribute [local instance] Classical.propDecidable
theorem outB_flip {s : Int} {q : Nat} (hs : s = 1 ∨ s = -1) (hq : q < 4) : outB s ((q + 2) % 4) = !outB s q := by
 rcases hs with rfl | rfl
 all_goals
  match q, hq with
  | 0, _ => rfl
  | 1, _ => rfl
  | 2, _ => rfl
  | 3, _ => rfl
def nx (G : Dg) (a : Nat) : Nat := G.X (G.T a 2) ((G.T a 3 + 2) % 4)
theorem nx_begin {G : Dg} (hG : GoodG G) {a : Nat} (ha : a < 2 * G.n) : nx G a < 2 * G.n ∧ G.T (nx G a) 0 = G.T a 2 ∧ G.T (nx G a) 1 = (G.T a 3 + 2) % 4 := by
 obtain ⟨t0, t1, t2, t3, x1, x2, hne⟩ := hG.T a ha
 have hq : (G.T a 3 + 2) % 4 < 4 := Nat.mod_lt _ (by omega)
 have hx := hG.X _ _ t2 hq
 have hdir := (hG.dir a ha).2
 have hdb := (hG.dir _ hx).2
 have hfl := outB_flip (hG.sign _ t2) t3
 rw [hdir] at hfl
 refine ⟨hx, ?_⟩
 rcases hG.cover _ _ t2 hq with ⟨h1, h2⟩ | ⟨h1, h2⟩
 ·exact ⟨h1.symm, h2.symm⟩
 ·rw [← h1, ← h2, hfl] at hdb
  cases hdb
theorem nx_perm {G : Dg} (hG : GoodG G) : PermN (2 * G.n) (nx G) :=
 ⟨fun a ha => (nx_begin hG ha).1, fun a b ha hb e => by
  obtain ⟨_, h1, h2⟩ := nx_begin hG ha
  obtain ⟨_, k1, k2⟩ := nx_begin hG hb
  obtain ⟨_, _, _, t3, _, x2, _⟩ := hG.T a ha
  obtain ⟨_, _, _, u3, _, y2, _⟩ := hG.T b hb
  rw [e] at h1 h2
  rw [← x2, ← y2, ← h1, k1, show G.T a 3 = G.T b 3 by omega]⟩
variable {E : Env} (hE : OE E)
include hE
theorem next_ {h : List O} {p : Nat} {G : Dg} (hG : GoodG G) (hd : DiagP h p G) {a : Nat} (ha : a < 2 * G.n) :
  DR E 221 [.pointer (some ⟨p, 0, none⟩), .int .i64 a] ⟨h, h.length⟩ (.ret (.int .i64 (nx G a))) ⟨h, h.length⟩ := by
 refine hE.fn (body := rb221) rfl ?_
 unfold rb221
 obtain ⟨xa, xc, ta, tc, el, own, h1, ⟨xb, xo, h2, h3⟩, ⟨tb, tt, h4, h5⟩⟩ := hd
 obtain rfl := h2 (by omega)
 obtain rfl := h4 (by omega)
 obtain ⟨t0, t1, t2, t3, _⟩ := hG.T a ha
 have e1 : ∀ l, rd (h ++ l) p 0 = some (.slice (some ⟨xb, xo, none⟩) G.n xc) := fun l => by rw [rd_def, app_of h1]; rfl
 have e2 : rd h p 2 = some (.slice (some ⟨tb, tt, none⟩) (2 * G.n) tc) := by rw [rd_def, h1]; rfl
 have e4 : rdN h tb (tt + a * 4 + 2) 2 = some [.int .i64 (G.T a 2), .int .i64 (G.T a 3)] := by
  have hr := h5 a ha
  rw [rdN_def] at hr ⊢
  cases hb : h[tb]? with
  | none => rw [hb] at hr; simp [rdNO] at hr
  | some o =>
   rw [hb] at hr
   cases o with
   | cells cs el2 own2 =>
    simp only [rdNO_cells] at hr ⊢
    split at hr
    ·rw [if_pos (by omega)]
     have := congrArg (Option.map (fun l => (l.drop 2).take 2)) hr
     simp only [Option.map_some, tabC, List.drop_take, List.drop_drop] at this
     simp only [Option.some.injEq] at this ⊢
     simpa [List.take_take] using this
    ·cases hr
   | _ => simp [rdNO] at hr
 have e3 : ∀ l, rd (h ++ l) xb (xo + G.T a 2 * 5 + (G.T a 3 + 2) % 4) = some (.int .i64 (nx G a)) := fun l => by
  have hq : (G.T a 3 + 2) % 4 < 4 := Nat.mod_lt _ (by omega)
  unfold nx
  generalize (G.T a 3 + 2) % 4 = q at hq ⊢
  rw [rd_of_rdN (rdN_app (h3 _ t2) l) (show q < 5 by omega)]
  match q, hq with
  | 0, _ => rfl
  | 1, _ => rfl
  | 2, _ => rfl
  | 3, _ => rfl
 have ha' : (a : Int) < 2 * (G.n : Int) := by omega
 have hw : IntKind.i64.wrap ((G.T a 3 : Int) + 2) = (G.T a 3 : Int) + 2 := by rw [w64_id] <;> omega
 have hmod : ((G.T a 3 : Int) + 2).tmod 4 = ((G.T a 3 + 2) % 4 : Nat) := tmod_add _ 2 4
 have hq' : (((G.T a 3 + 2) % 4 : Nat) : Int) < 4 := by omega
 obtain ⟨q, hqe⟩ : ∃ q, q = (G.T a 3 + 2) % 4 := ⟨_, rfl⟩
 rw [← hqe] at hmod hq' e3
 simp [e1, e2, e3, e4, rd_at, rd_at0, rdN_at, rdN_at0, wrN_at, wrN_at0, set_at0, ha, ha', t2, hw, hmod, hq', List.append_assoc, bit, back_scalar, Out.scalar, scalar, flat1, flat]
end Go.Proofs.Ytjlkndkedknocaa
namespace Go.Proofs.Ytjlkndkedknocaa
open Go Go.Ai
attribute [local instance] Classical.propDecidable
def SameC (G : Dg) : Nat → Nat → Prop := SameO (nx G)
variable {E : Env} (hE : OE E)
include hE
theorem components_ {G : Dg} (hG : GoodG G) {h0 : List O} {p : Nat} (hd : DiagP h0 p G) :
  DC E 160 [.pointer (some ⟨p, 0, none⟩)] ⟨h0, h0.length⟩ fun o st' => ∃ (xs : List Int) (k : Nat), o = .ret (.tuple #[.slice (some ⟨h0.length, 0, none⟩) (2 * G.n) (2 * G.n), .int .i64 k]) ∧ h0.length ≤ st'.fl ∧ Sub h0 st'.h ∧
   st'.h[h0.length]? = some (.cells (intsC xs) 3 (some 0)) ∧ OrbI (2 * G.n) (nx G) (2 * G.n) k xs ∧ k ≤ 2 * G.n := by
 refine hE.fnC (body := rb160) rfl ?_
 unfold rb160
 have hN := nx_perm hG
 have hd0 := hd
 obtain ⟨xa, xc, ta, tc, el, own, hp0, _, _⟩ := hd0
 have hsz := hG.size
 have e0 : (0 : Int) ≤ 2 * G.n := by omega
 have e1 : 2 * (G.n : Int) * 8 ≤ 140737488355328 := by omega
 have e2 : 2 * (G.n : Int) < 4611686018427387904 := by omega
 have e3 : (2 * (G.n : Int)).toNat = 2 * G.n := by omega
 simp [rd_def, hp0, e0, e1, e2, e3]
 refine DW_loop (fun kk fr st => ∃ (i : Nat) (h : List O) (xs : List Int), i + kk = 2 * G.n ∧ st = ⟨h, h0.length⟩ ∧ Sub h0 h ∧ AtB h h0.length (.cells (intsC xs) 3 (some 0)) ∧ xs.length = 2 * G.n ∧ (∀ j, j < i → nth xs j = -1) ∧ get fr 0 = .pointer (some ⟨p, 0, none⟩) ∧ get fr 4 = .slice (some ⟨h0.length, 0, none⟩) (2 * G.n) (2 * G.n) ∧ get fr 16 = .int .i64 (2 * G.n) ∧ get fr 17 = .int .i64 i) ?_ (k := 2 * G.n) ?_
 ·rintro kk fr st ⟨i, h, xs, hik, rfl, hsub, hatB, hlen, hm, g0, g4, g16, g17⟩
  have hat := hatB
  unfold AtB at hat
  by_cases hi : i < 2 * G.n
  ·have hi' : (i : Int) < 2 * G.n := by omega
   have hw : IntKind.i64.wrap ((i : Int) + 1) = (i : Int) + 1 := by rw [w64_id] <;> omega
   have hi2 : i < xs.length := by omega
   have hi3 : i + 1 ≤ 2 * G.n := by omega
   simp [g0, g4, g16, g17, hi, hi', wrN_def, hat, hlen, intsC_set, hw, hi3]
   refine ⟨kk - 1, by omega, i + 1, by omega, hsub.set (Nat.le_refl _) _, xs.set i (-1), set_self hat, by simp [hlen], fun j hj => ?_, by omega⟩
   rw [nth_set hi2]
   by_cases e : j = i
   ·rw [if_pos e]
   ·rw [if_neg e]; exact hm j (by omega)
  ·have hin : i = 2 * G.n := by omega
   subst hin
   simp [g0, g4, g16, g17]
   have hO := OrbI.start (f := nx G) hlen (fun j hj => hm j hj)
   refine DW_loop (fun kk fr st => ∃ (i : Nat) (h : List O) (xs : List Int) (cnt : Nat), i + kk = 2 * G.n ∧ st = ⟨h, h0.length⟩ ∧ Sub h0 h ∧ AtB h h0.length (.cells (intsC xs) 3 (some 0)) ∧ OrbI (2 * G.n) (nx G) i cnt xs ∧ cnt ≤ i ∧ get fr 0 = .pointer (some ⟨p, 0, none⟩) ∧ get fr 4 = .slice (some ⟨h0.length, 0, none⟩) (2 * G.n) (2 * G.n) ∧ get fr 6 = .int .i64 cnt ∧ get fr 25 = .int .i64 (2 * G.n) ∧ get fr 26 = .int .i64 i) ?_ (k := 2 * G.n) ?_
   ·clear g0 g4 g16 g17 hO hm hlen hat hatB hsub hik
    clear xs h
    rintro kk fr st ⟨i, h, xs, cnt, hik, rfl, hsub, hatB, hO, hcnt, g0, g4, g6, g25, g26⟩
    have hat := hatB
    unfold AtB at hat
    have hlen := hO.len
    by_cases hi : i < 2 * G.n
    ·have hi' : (i : Int) < 2 * G.n := by omega
     have hw : IntKind.i64.wrap ((i : Int) + 1) = (i : Int) + 1 := by rw [w64_id] <;> omega
     have hi2 : i < xs.length := by omega
     by_cases hf : 0 ≤ nth xs i
     ·simp [g0, g4, g6, g25, g26, hi, hi', rd_def, hat, intsC_get hi2, hf, hw]
      exact ⟨kk - 1, by omega, i + 1, by omega, hsub, xs, hatB, cnt, hO.skip hf, by omega, rfl, by omega⟩
     ·have hneg : nth xs i < 0 := by omega
      simp [g0, g4, g6, g25, g26, hi, hi', rd_def, hat, intsC_get hi2, hf]
      obtain ⟨P, ⟨p1, p2, p3⟩, p4⟩ := hN.period hi
      refine DW_loop (fun kk' fr st => ∃ (t : Nat) (h : List O) (xs' : List Int), t + kk' = P ∧ st = ⟨h, h0.length⟩ ∧ Sub h0 h ∧ AtB h h0.length (.cells (intsC xs') 3 (some 0)) ∧ OrbT (2 * G.n) (nx G) i cnt t xs xs' ∧ get fr 0 = .pointer (some ⟨p, 0, none⟩) ∧ get fr 4 = .slice (some ⟨h0.length, 0, none⟩) (2 * G.n) (2 * G.n) ∧ get fr 6 = .int .i64 cnt ∧ get fr 25 = .int .i64 (2 * G.n) ∧ get fr 26 = .int .i64 i ∧ get fr 8 = .int .i64 (itr (nx G) i t)) ?_ (k := P) ?_
      ·clear g0 g4 g6 g25 g26
       rintro kk' fr st ⟨t, h', xs', htk, rfl, hsub', hatB', hT, g0, g4, g6, g25, g26, g8⟩
       have hat' := hatB'
       unfold AtB at hat'
       have hb := hN.itr_lt hi t
       have hb' : ((itr (nx G) i t : Nat) : Int) < 2 * G.n := by omega
       have hb2 : itr (nx G) i t < xs'.length := by rw [hT.len]; exact hb
       have hb3 : itr (nx G) i t + 1 ≤ 2 * G.n := by omega
       by_cases ht : t < P
       ·have hng := hT.neg hN hO hi hneg p4 ht
        have hnx := fun l => next_ hE (h := h'.set h0.length l) hG (hd.sub (hsub'.set (Nat.le_refl _) l)) hb
        simp only [List.length_set] at hnx
        simp [g0, g4, g6, g25, g26, g8, hb', rd_def, wrN_def, hat', intsC_get hb2, hng, intsC_set, hT.len, hb3, DC_of (hnx _), joined_fl]
        exact ⟨kk' - 1, by omega, t + 1, by omega, hsub'.set (Nat.le_refl _) _, _, set_self hat', hT.next hb, rfl⟩
       ·have : t = P := by omega
        subst this
        have hng : ¬ nth xs' (itr (nx G) i t) < 0 := by
         rw [hT.at_, if_pos ⟨0, p1, by rw [p2]; rfl⟩]; omega
        have hw2 : IntKind.i64.wrap ((cnt : Int) + 1) = (cnt : Int) + 1 := by rw [w64_id] <;> omega
        simp [g0, g4, g6, g25, g26, g8, hb', rd_def, hat', intsC_get hb2, hng, hw, hw2]
        exact ⟨kk - 1, by omega, i + 1, by omega, hsub', xs', hatB', cnt + 1, hT.finish hN hO hi hneg p1 p2, by omega, by omega, by omega⟩
      ·exact ⟨0, h, xs, by omega, rfl, hsub, hatB, OrbT.start hO, by simp [g0, g4, g6, g25, g26, itr]⟩
    ·have hin : i = 2 * G.n := by omega
     have hi' : ¬ (i : Int) < 2 * G.n := by omega
     simp [g0, g4, g6, g25, g26, hi', endK_ret]
     unfold pairQ back
     rw [if_neg (by simp [Out.scalar, scalar, flat1, flat])]
     rw [hin] at hO hcnt
     exact ⟨xs, cnt, rfl, Nat.le_refl _, hsub, hat, hO, hcnt⟩
   ·exact ⟨0, h, xs, 0, by omega, rfl, hsub, hatB, hO, by omega, by simp [g0, g4]⟩
 ·refine ⟨0, _, List.replicate (2 * G.n) 0, by omega, rfl, (Sub.refl h0).app _, ?_, by simp, fun j h => by omega, by simp⟩
  unfold AtB
  rw [app_at0]
  simp [rep, intsC]
end Go.Proofs.Ytjlkndkedknocaa
