/- Texts that were built one by one: Lt1, Lt2, Lt3, Lt4, Lt5, Lt6, Lt7, Lt8, Lu1, Lu2, Lu3, Lu4, Lu5. -/
import Derived.Test.YtdbkhecnkhjhpaaBh
/- The first wrong column; the proof that there is no solution. -/
namespace Go.Proofs.Ytdbkhecnkhjhpaa
open Go Go.Ai
set_option linter.unusedSimpArgs false
set_option linter.unusedVariables false
attribute [local instance] Classical.propDecidable
variable {E : Env} (hE : LpE E) {h0 h : List O} {L : Lay} {s : Tab} {l : List (Int × Int × Nat)} {clock : Nat} {T0 : Nat → Nat → Int}

/-- A column that is wrong. -/
def WrongZ (L : Lay) (s : Tab) (c : Nat) : Prop := match rowOf s L.m c with
  | some r => s.t r (L.n + L.m) < 0
  | none => s.t L.m c < 0
include hE
theorem wrong76 (T : TabAt h0 L s l clock h) (o : L.Ok h0) (hM : MapOk L.m s.bas l clock) (hI : TInv L.m L.n T0 s) {a : Option Addr} {cc : Nat} (hC : L.vC = .slice a L.n cc) {c q : Nat} (hc : c < L.n) (hq : rd h q 0 = some (.pointer (some ⟨L.p, 0, none⟩))) :
    DR E 76 [.int .i64 c, .pointer (some ⟨q, 0, none⟩)] ⟨h, h.length⟩ (.ret (.bool (decide (WrongZ L s c)))) ⟨h, h.length⟩ := by
  refine hE.fn (body := rb76) rfl (by decide) ?_
  unfold rb76
  have r6 := T.rdMap
  have hcN : c < L.N := by rw [L.N_eq]; omega
  have hmM : L.m < L.M := by rw [L.M_eq]; omega
  have lk : ∀ f, lookupS [some .i64] false (.int .i64 0) true ⟨h, f⟩ (.map (some L.bm)) (.int .i64 c) = some (.val (match atZ c l 0 with | some (_, v) => .tuple #[.int .i64 v, .bool true] | none => .tuple #[.int .i64 0, .bool false]), ⟨h, f⟩) := fun f => lookupS_ent (st := ⟨h, f⟩) T.map
  cases hr : rowOf s L.m c with
  | some r =>
    have hb := hI.rowOf_some.1 hr
    have hrm := hI.rowLt hb
    obtain ⟨j, hj⟩ := hM.found (fun i j c h1 h2 => hI.inj h1 h2) hb
    simp only [hj] at lk
    have l70 := right70 hE T o hC (i := r) (by rw [L.M_eq]; omega)
    simp [hq, r6, lk, DC_of l70, WrongZ, hr]
  | none =>
    have hf := hM.free (c := c) (hI.rowOf_none.1 hr)
    simp only [hf] at lk
    have l61 := costs61 hE T o
    have r1 := T.rdRow hmM hcN
    simp [hq, r6, lk, DC_of l61, hcN, r1, WrongZ, hr]
theorem first72 (T : TabAt h0 L s l clock h) (o : L.Ok h0) (hM : MapOk L.m s.bas l clock) (hI : TInv L.m L.n T0 s) {a : Option Addr} {cc : Nat} (hC : L.vC = .slice a L.n cc) :
    DR E 72 [.pointer (some ⟨L.p, 0, none⟩)] ⟨h, h.length⟩ (.ret (.int .i64 (firstI (fun c => decide (WrongZ L s c)) L.n))) ⟨h, h.length⟩ := by
  refine hE.fn (body := rb72) rfl (by decide) ?_
  unfold rb72
  rw [DW_seq, DW_ops]
  refine DL_boxed fun h' q hx hlen hq hb => ?_
  simp at hb
  have T' := T.ext hx
  have hq0 : rd h' q 0 = some (.pointer (some ⟨L.p, 0, none⟩)) := by rw [hb.rd]; rfl
  have l62 : ∀ h, DR E 62 [.agg #[L.vA, L.vB, .slice a L.n cc]] ⟨h, h.length⟩ (.ret (.int .i64 L.n)) ⟨h, h.length⟩ := fun h => cols62 hE
  have r2 := T'.rdLp
  rw [hC] at r2
  have sm := o.small
  simp [hq0, r2, DC_of (l62 _)]
  refine DW_loop (fun k fr st => ∃ i : Nat, i + k = L.n ∧ st = ⟨h', h.length⟩ ∧ get fr 3 = .func (.func 76) #[] #[.pointer (some ⟨q, 0, none⟩)] ∧ get fr 10 = .int .i64 L.n ∧ get fr 11 = .int .i64 i ∧ ∀ j, j < i → ¬ WrongZ L s j) ?_ (k := L.n) ?_
  · rintro k fr st ⟨i, hi, rfl, g3, g10, g11, hall⟩
    by_cases hlt : i < L.n
    · have lw := wrong76 hE T' o hM hI hC hlt hq0
      by_cases hw : WrongZ L s i
      · simp [g3, g10, g11, hlt, DC_of lw, hw]
        rw [firstI_found hlt (by simpa using hw) fun j hj => by simpa using hall j hj]
      · simp [g3, g10, g11, hlt, DC_of lw, hw]
        refine ⟨k - 1, by omega, i + 1, by omega, by rw [w64_id] <;> omega, fun j hj => ?_⟩
        rcases Nat.lt_succ_iff_lt_or_eq.1 hj with hj | rfl
        · exact hall j hj
        · exact hw
    · have : i = L.n := by omega
      subst this
      simp [g3, g10, g11]
      rw [firstI_none fun j hj => by simpa using hall j hj]
  · exact ⟨0, by simp⟩
end Go.Proofs.Ytdbkhecnkhjhpaa
/- The proof that there is no solution. -/
namespace Go.Proofs.Ytdbkhecnkhjhpaa
open Go Go.Ai
set_option linter.unusedSimpArgs false
set_option linter.unusedVariables false
attribute [local instance] Classical.propDecidable
variable {E : Env} (hE : LpE E) {h0 h : List O} {L : Lay} {s : Tab} {l : List (Int × Int × Nat)} {clock : Nat} {T0 : Nat → Nat → Int}

theorem get_last {h : List O} {o : O} : (h ++ [o])[h.length]? = some o := by simp
theorem rd_last {h : List O} {N j : Nat} {f : Nat → Int} {el : TypeId} {own : Option Nat} (hj : j < N) : rd (h ++ [.cells (cellsF N f) el own]) h.length j = some (.int .i64 (f j)) := by
  simp [rd, cellsF_get hj]
theorem wrN_last {h : List O} {N j : Nat} {f : Nat → Int} {el : TypeId} {sz : Nat} {x : Int} (hj : j < N) : wrN (h ++ [.cells (cellsF N f) el (some sz)]) h.length j [.int .i64 x] = some (h ++ [.cells (cellsF N fun k => if k = j then x else f k) el (some sz)]) := by
  simp only [wrN, get_last]
  rw [if_pos ⟨by simp; omega, by simp [one1]⟩, cellsF_setL hj]
  simp
theorem joined_le {H H' : List O} {f0 f1 : Nat} (h01 : f0 ≤ f1) : joined ⟨H, f0⟩ ⟨H', f1⟩ = ⟨H', f0⟩ := by
  simp only [joined]
  split
  · rw [Nat.min_eq_left h01]
  · rfl
theorem DL_newC {d : Nat} {el : TypeId} {z : List Value} {anc : Nat} {os : List ROper} {fr : Fr} {h : List O} {f : Nat} {Q : Post} (hk : ∀ h' p, Ext h h' → h'.length = h.length + 1 → p = h.length → h'[p]? = some (.cells z el (some 0)) → DL E os (put fr d (.pointer (some ⟨p, 0, none⟩))) ⟨h', f⟩ Q) :
    DL E (⟨some d, none, .new el z, anc⟩ :: os) fr ⟨h, f⟩ Q := by
  simp
  exact hk _ _ (Ext.snoc h _) (by simp) rfl (by simp)
theorem lowL_length (xs : List Int) : (lowL xs).length = xs.length := by unfold lowL; split <;> simp
theorem lowL_nth (xs : List Int) (i : Nat) : nth (lowL xs) i = if 1 < gN xs xs.length then (nth xs i).tdiv (gN xs xs.length) else nth xs i := by
  unfold lowL
  split
  · by_cases hi : i < xs.length
    · simp [nth, hi]
    · rw [nth_ge (by simp; omega), nth_ge (by omega)]; simp
  · rfl
theorem lowL_abs (xs : List Int) (i : Nat) : (nth (lowL xs) i).natAbs ≤ (nth xs i).natAbs := by
  rw [lowL_nth]
  split
  · rw [Int.natAbs_tdiv]; exact Nat.div_le_self _ _
  · exact Nat.le_refl _
include hE
theorem empty71 (T : TabAt h0 L s l clock h) (o : L.Ok h0) (hs : Small L s) {a : Option Addr} {cc : Nat} (hC : L.vC = .slice a L.n cc) {i : Nat} (hi : i < L.m) {e : Int} (he : e = 1 ∨ e = -1) :
    DC E 71 [.pointer (some ⟨L.p, 0, none⟩), .int .i64 i, .int .i64 e] ⟨h, h.length⟩ fun out st' => ∃ vY, out = .ret (.agg #[.int .i64 2, .slice none 0 0, .int .i64 0, vY, .int .i64 0, .slice none 0 0]) ∧ Ext h st'.h ∧ h.length ≤ st'.fl ∧
      Ints st'.h vY (lowL (listF L.m fun k => e * s.t i (L.n + k))) ∧ ∃ b, vY = .slice (some ⟨b, 0, none⟩) L.m L.m ∧ h.length ≤ b := by
  refine hE.fnC (body := rb71) rfl (by decide) ?_
  unfold rb71
  have sm := o.small
  have hiM : i < L.M := by rw [L.M_eq]; omega
  rw [DW_seq, DW_ops]
  refine DL_newC fun h1 q hx hlen hq hz => ?_
  have T' := T.ext hx
  have l75 := part75 hE T' o hC hi
  have ints := ints_cells (o := L.n) (k := L.m) (c := L.m + 1) (T'.row i hiM) (by rw [L.N_eq]; omega) (by rw [L.N_eq]; omega) (fun j hj => by have := hs.2 i j hiM hj; constructor <;> omega)
  have l56 := clone56 hE ints (by simp; omega) (by simp; omega)
  rw [listF_length, ← cellsF_list] at l56
  simp [DC_of l75, DC_of l56]
  refine DW_loop (fun k fr st => ∃ j : Nat, j + k = L.m ∧ st = ⟨h1 ++ [.cells (cellsF L.m fun x => if x < j then e * s.t i (L.n + x) else s.t i (L.n + x)) 3 (some 1)], h.length⟩ ∧ get fr 2 = .int .i64 e ∧ get fr 6 = .pointer (some ⟨q, 0, none⟩) ∧ get fr 7 = .slice (some ⟨h1.length, 0, none⟩) L.m L.m ∧ get fr 14 = .int .i64 L.m ∧ get fr 15 = .int .i64 j) ?_ (k := L.m) ?_
  · rintro k fr st ⟨j, hj, rfl, g2, g6, g7, g14, g15⟩
    by_cases hlt : j < L.m
    · have r1 := rd_last (h := h1) (f := fun x => if x < j then e * s.t i (L.n + x) else s.t i (L.n + x)) (el := 3) (own := some 1) hlt
      simp only [Nat.lt_irrefl, if_false] at r1
      have hb := hs.2 i (L.n + j) hiM (by rw [L.N_eq]; omega)
      have e1 : IntKind.i64.wrap (s.t i (L.n + j) * e) = e * s.t i (L.n + j) := by
        rw [Int.mul_comm, w64_id] <;> rcases he with rfl | rfl <;> omega
      have w := wrN_last (h := h1) (f := fun x => if x < j then e * s.t i (L.n + x) else s.t i (L.n + x)) (el := 3) (sz := 1) (x := e * s.t i (L.n + j)) hlt
      have ew : cellsF L.m (fun k => if k = j then e * s.t i (L.n + j) else if k < j then e * s.t i (L.n + k) else s.t i (L.n + k)) = cellsF L.m (fun x => if x < j + 1 then e * s.t i (L.n + x) else s.t i (L.n + x)) := by
        refine cellsF_congr fun x hx => ?_
        by_cases c1 : x = j
        · subst c1; rw [if_pos rfl, if_pos (by omega)]
        · rw [if_neg c1]
          by_cases c2 : x < j
          · rw [if_pos c2, if_pos (by omega)]
          · rw [if_neg c2, if_neg (by omega)]
      rw [ew] at w
      simp [g2, g6, g7, g14, g15, hlt, r1, e1, w]
      exact ⟨k - 1, by omega, j + 1, by omega, ⟨rfl, by omega⟩, by rw [w64_id] <;> omega⟩
    · have : j = L.m := by omega
      subst this
      have ec : cellsF L.m (fun x => if x < L.m then e * s.t i (L.n + x) else s.t i (L.n + x)) = (listF L.m fun x => e * s.t i (L.n + x)).map (.int .i64) := by
        rw [← cellsF_list]; exact cellsF_congr fun x hx => if_pos hx
      rw [ec]
      generalize hX : (listF L.m fun x => e * s.t i (L.n + x)) = X
      have hXl : X.length = L.m := by rw [← hX]; simp
      have hXb : ∀ j, -268435456 ≤ nth X j ∧ nth X j ≤ 268435456 := fun j => by
        by_cases c1 : j < L.m
        · rw [← hX, listF_nth c1]
          have hb := hs.2 i (L.n + j) hiM (by rw [L.N_eq]; omega)
          rcases he with rfl | rfl <;> omega
        · rw [nth_ge (by omega)]; omega
      have lw := lowest29 hE (H := h1 ++ [.cells (X.map (.int .i64)) 3 (some 1)] ++ [.cells [.slice (some ⟨h1.length, 0, none⟩) L.m L.m] 23 (some 0)]) (bL := h1.length + 1) (oL := 0) (cL := 1) (b := h1.length) (n := L.m) (c := L.m) (s := 1) (el := 3) (xs := X) (by simp [rd, hXl]) (by simp) (by omega) (by omega) (fun j => by have := hXb j; omega)
      simp [g2, g6, g7, g14, g15, fillL, setL, -List.length_append, -List.append_assoc]
      rw [show (h1 ++ [O.cells (X.map (.int .i64)) 3 (some 1)]).length = h1.length + 1 by simp]
      refine lw.imp ?_
      rintro out st' ⟨rfl, f, rfl, hf⟩
      simp [joined_le (show h.length ≤ f by omega), g6, g7, fillL, setL]
      generalize hH : h1 ++ [O.cells (List.map (Value.int IntKind.i64) (lowL X)) 3 (some 1), O.cells [Value.slice (some ⟨h1.length, 0, none⟩) L.m L.m] 23 (some 0)] = H2
      have e2 : Ext h1 H2 := ⟨_, hH.symm⟩
      have hq2 := get_ext e2 hz
      have hq3 := (List.getElem?_eq_some_iff.1 hq2).1
      have hb2 : H2[h1.length]? = some (.cells (List.map (Value.int IntKind.i64) (lowL X)) 3 (some 1)) := by rw [← hH]; simp
      generalize hv : [Value.int IntKind.i64 2, Value.slice none 0 0, Value.int IntKind.i64 0, Value.slice (some ⟨h1.length, 0, none⟩) L.m L.m, Value.int IntKind.i64 0, Value.slice none 0 0] = vals
      have w : wrN H2 q 0 vals = some (H2.set q (.cells vals 27 (some 0))) := by
        simp only [wrN, hq2]
        rw [if_pos (by rw [← hv]; simp [one1])]
        rw [← hv]; rfl
      have rq : rdN (H2.set q (.cells vals 27 (some 0))) q 0 6 = some vals := by
        simp only [rdN]
        rw [List.getElem?_set_self hq3]
        rw [← hv]; rfl
      have hH3 : ∀ k, k = 6 → rdN (H2.set q (.cells vals 27 (some 0))) q 0 k = some vals := fun k hk => by rw [hk]; exact rq
      simp [w, g6, rq]
      have hsc : (Out.ret (Value.agg vals.toArray)).scalar = false := by rw [← hv]; simp [Out.scalar, scalar, flat1, flat]
      unfold back
      rw [hsc, if_neg (by simp)]
      refine ⟨.slice (some ⟨h1.length, 0, none⟩) L.m L.m, by rw [← hv], (hx.trans e2).set (by omega) _, by simp only; omega, ?_⟩
      have hb3 : (H2.set q (O.cells vals 27 (some 0)))[h1.length]? = some (.cells (List.map (Value.int IntKind.i64) (lowL X)) 3 (some 1)) := by
        rw [List.getElem?_set_ne (by omega)]; exact hb2
      refine ⟨?_, h1.length, rfl, by omega⟩
      refine ⟨some ⟨h1.length, 0, none⟩, h1.length, 0, L.m, by simp [lowL_length, hXl], fun _ => rfl, fun j hj => ?_, fun j => ?_, by rw [lowL_length]; omega⟩
      · simp only [rd, hb3]
        rw [List.getElem?_map, Nat.zero_add, List.getElem?_eq_getElem hj]
        simp [nth, hj]
      · have := lowL_abs X j
        have := hXb j
        constructor <;> omega
  · have ec : cellsF L.m (fun x => if x < 0 then e * s.t i (L.n + x) else s.t i (L.n + x)) = cellsF L.m fun x => s.t i (L.n + x) := cellsF_congr fun x hx => if_neg (by omega)
    exact ⟨0, by simp, by rw [ec], by simp⟩
end Go.Proofs.Ytdbkhecnkhjhpaa
/- The rule in memory. -/
namespace Go.Proofs.Ytdbkhecnkhjhpaa
open Go Go.Ai
set_option linter.unusedSimpArgs false
set_option linter.unusedVariables false
attribute [local instance] Classical.propDecidable
variable {E : Env} (hE : LpE E) {h0 h : List O} {L : Lay} {s : Tab} {l : List (Int × Int × Nat)} {clock : Nat} {T0 : Nat → Nat → Int}

theorem raw_small {r c : Nat} (hp : s.t r c ≠ 0) (hs' : Small L (Ai.stepT s r c)) {i j : Nat} (hi : i < L.M) (hj : j < L.N) : I64 (rawT s r c i j) ∧ I64 (- rawT s r c i j) := by
  have := hs'.2 i j hi hj
  simp only [Ai.stepT] at this
  rcases sgnP_cases (s.t r c) with e | e <;> rw [e] at this <;> refine ⟨⟨?_, ?_⟩, ?_, ?_⟩ <;> omega
theorem okC_of (hI : TInv L.m L.n T0 s) {j : Nat} (hw : ¬ WrongZ L s j) : OkC L.m L.n s j := by
  refine ⟨fun i hi => ?_, fun hb => ?_⟩
  · simp only [WrongZ, hI.rowOf_some.2 hi] at hw; omega
  · simp only [WrongZ, hI.rowOf_none.2 fun i hi => hb ⟨i, hi⟩] at hw; omega
include hE
theorem neg73 (x : Int) : DR E 73 [.int .i64 x] ⟨h, h.length⟩ (.ret (.bool (decide (x < 0)))) ⟨h, h.length⟩ := by
  refine hE.fn (body := rb73) rfl (by decide) ?_
  unfold rb73
  simp
theorem nz68 (x : Int) : DR E 68 [.int .i64 x] ⟨h, h.length⟩ (.ret (.bool (decide (x ≠ 0)))) ⟨h, h.length⟩ := by
  refine hE.fn (body := rb68) rfl (by decide) ?_
  unfold rb68
  simp
/-- The first column of a row with a property, as the program looks for it. -/
theorem rowFirst (T : TabAt h0 L s l clock h) (o : L.Ok h0) (hs : Small L s) {i g : Nat} (hi : i < L.M) {c : Nat} {p : Int → Bool} (hg : ∀ x, DR E g [.int .i64 x] ⟨h, h.length⟩ (.ret (.bool (p x))) ⟨h, h.length⟩) :
    DR E 64 [.slice (some ⟨L.rb i, 0, none⟩) L.n c, .func (.func g) #[] #[]] ⟨h, h.length⟩ (.ret (.int .i64 (firstI (fun j => p (s.t i j)) L.n))) ⟨h, h.length⟩ := by
  have sm := o.small
  have ints := ints_cells (o := 0) (k := L.n) (c := c) (T.row i hi) (by rw [L.N_eq]; omega) (by rw [L.N_eq]; omega) (fun j hj => by have := hs.2 i j hi hj; constructor <;> omega)
  have := index64 hE (caps := []) ints hg
  rw [listF_length] at this
  have e : firstI (fun i_1 => p (nth (listF L.n fun j => s.t i (0 + j)) i_1)) L.n = firstI (fun j => p (s.t i j)) L.n := by
    rcases firstI_cases (fun j => p (s.t i j)) L.n with ⟨j, h1, h2, h3, h4⟩ | ⟨h1, h2⟩
    · rw [h4]
      exact firstI_found h1 (by rw [listF_nth h1, Nat.zero_add]; exact h2) fun x hx => by rw [listF_nth (by omega), Nat.zero_add]; exact h3 x hx
    · rw [h2]
      exact firstI_none fun x hx => by rw [listF_nth hx, Nat.zero_add]; exact h1 x hx
  rw [e] at this
  exact this
end Go.Proofs.Ytdbkhecnkhjhpaa
/- The run of the rule. -/
namespace Go.Proofs.Ytdbkhecnkhjhpaa
open Go Go.Ai
set_option linter.unusedSimpArgs false
set_option linter.unusedVariables false
attribute [local instance] Classical.propDecidable
variable {E : Env} (hE : LpE E) {h0 h : List O} {L : Lay} {s : Tab} {l : List (Int × Int × Nat)} {clock : Nat} {T0 : Nat → Nat → Int}

def zeroRes6 : List Value := [.int .i64 0, .slice none 0 0, .int .i64 0, .slice none 0 0, .int .i64 0, .slice none 0 0]
/-- The body of the rule's loop. -/
def rnB : R := match rb59 with | .seq _ (.block _ (.loop (.block _ b))) => b | _ => .skip
theorem rb59_eq : ∃ a, rb59 = .seq a (.block 0 (.loop (.block 1 rnB))) := ⟨_, rfl⟩
def RnFr (L : Lay) (q : Nat) (fr : Fr) : Prop := get fr 0 = .pointer (some ⟨L.p, 0, none⟩) ∧ get fr 2 = .pointer (some ⟨q, 0, none⟩)
/-- What the rule's way of a round is. -/
structure RnQ (h0 : List O) (L : Lay) (T0 : Nat → Nat → Int) (s : Tab) (q : Nat) (n0 : Nat) (Q : Post) : Prop where
  done : ∀ fr h l clock f, RnFr L q fr → get fr 3 = .int .i64 (-1) → get fr 4 = .bool false → TabAt h0 L s l clock h → MapOk L.m s.bas l clock → (∀ c, c < L.n → ¬ WrongZ L s c) → n0 ≤ h.length → h0.length ≤ f → Q .ret fr ⟨h, f⟩
  none : ∀ fr h f r vY, RnFr L q fr → get fr 3 = .int .i64 (-1) → get fr 4 = .bool true → r < L.m → (∀ j, j < L.n → 0 ≤ s.t r j) → s.t r (L.n + L.m) < 0 → Keep h0 h → n0 ≤ h.length →
    h[q]? = some (.cells [.int .i64 2, .slice none 0 0, .int .i64 0, vY, .int .i64 0, .slice none 0 0] 27 (some 0)) → Ints h vY (lowL (listF L.m fun k => 1 * s.t r (L.n + k))) → h0.length ≤ f → Q .ret fr ⟨h, f⟩
  ray : ∀ fr h l clock f k, RnFr L q fr → get fr 3 = .int .i64 (k : Nat) → get fr 4 = .bool false → TabAt h0 L s l clock h → MapOk L.m s.bas l clock → k < L.n → (∀ i, s.bas i ≠ some k) → s.t L.m k < 0 → (∀ i c, s.bas i = some c → s.t i k ≤ 0) → n0 ≤ h.length → h0.length ≤ f → Q .ret fr ⟨h, f⟩
  next : ∀ fr h l clock f e r ll, RnFr L q fr → Pick L.m L.n s r e ll → TabAt h0 L (Ai.stepT s r e) l clock h → MapOk L.m (Ai.stepT s r e).bas l clock → n0 ≤ h.length → h0.length ≤ f → f ≤ h.length → Q .normal fr ⟨h, f⟩ ∧ Q (.exit 1) fr ⟨h, f⟩

include hE
theorem rnB_ok (T : TabAt h0 L s l clock h) (o : L.Ok h0) (hM : MapOk L.m s.bas l clock) (hI : TInv L.m L.n T0 s) (hSm : ∀ s, TInv L.m L.n T0 s → Small L s) {a : Option Addr} {cc : Nat} (hC : L.vC = .slice a L.n cc) {q : Nat} (hq : L.F q = some (.cells zeroRes6 27 (some 0)))
    {n0 : Nat} (hn0 : n0 ≤ h.length) (hq0 : h0.length ≤ q) {fr : Fr} (hf : RnFr L q fr) {f : Nat} (hfl : h0.length ≤ f) (hfu : f ≤ h.length) {Q : Post} (hQ : RnQ h0 L T0 s q n0 Q) : DW E rnB fr ⟨h, f⟩ Q := by
  obtain ⟨g0, g2⟩ := hf
  have sm := o.small
  have hs := hSm s hI
  have lf := first72 hE T o hM hI hC
  have hqc := T.frame q _ hq
  have hql := (List.getElem?_eq_some_iff.1 hqc).1
  have r6 := T.rdMap
  have hmM : L.m < L.M := by rw [L.M_eq]; omega
  have lk : ∀ f k, lookupS [some .i64] false (.int .i64 0) true ⟨h, f⟩ (.map (some L.bm)) (.int .i64 k) = some (.val (match atZ k l 0 with | some (_, v) => .tuple #[.int .i64 v, .bool true] | none => .tuple #[.int .i64 0, .bool false]), ⟨h, f⟩) := fun f k => lookupS_ent (st := ⟨h, f⟩) T.map
  have l62 : ∀ h, DR E 62 [.agg #[L.vA, L.vB, .slice a L.n cc]] ⟨h, h.length⟩ (.ret (.int .i64 L.n)) ⟨h, h.length⟩ := fun h => cols62 hE
  show DW E (match rb59 with | .seq _ (.block _ (.loop (.block _ b))) => b | _ => .skip) fr ⟨h, f⟩ Q
  unfold rb59
  rcases firstI_cases (fun c => decide (WrongZ L s c)) L.n with ⟨k, k1, k2, k3, k4⟩ | ⟨k1, k2⟩
  · rw [k4] at lf
    have hw : WrongZ L s k := by simpa using k2
    have nk : ¬ (k : Int) < 0 := by omega
    have hok : ∀ j, j < k → OkC L.m L.n s j := fun j hj => okC_of hI (by simpa using k3 j hj)
    cases hr : rowOf s L.m k with
    | some r =>
      have hb := hI.rowOf_some.1 hr
      have hrm := hI.rowLt hb
      have hrM : r < L.M := by omega
      obtain ⟨j, hj⟩ := hM.found (fun i j c h1 h2 => hI.inj h1 h2) hb
      have lk1 := fun f => lk f k
      simp only [hj] at lk1
      have r1 := T.rdHdr hrM
      have r2 := T.rdLp
      rw [hC] at r2
      have r3 := T.rdRows
      have lr := rowFirst hE T o hs hrM (c := L.N) (p := fun x => decide (x < 0)) fun x => neg73 hE x
      have sl := sliceV_hi (h := h) (b := L.rb r) (o := 0) (len := L.N) (cap := L.N) (hi := L.n) (T.tag hrM) (by rw [L.N_eq]; omega) (by rw [L.N_eq]; omega)
      have hneg : s.t r (L.n + L.m) < 0 := by simpa [WrongZ, hr] using hw
      rcases firstI_cases (fun j => decide (s.t r j < 0)) L.n with ⟨c, c1, c2, c3, c4⟩ | ⟨c1, c2⟩
      · rw [c4] at lr
        have c2' : s.t r c < 0 := by simpa using c2
        have hp : s.t r c ≠ 0 := by omega
        have lp := pivot69 (T0 := T0) hE T o hM hI hs hrm c1 hp fun i j hi hj => raw_small hp (hSm _ (hI.step hrm c1 hp)) hi hj
        simp [g0, g2, DC_of lf, r6, lk1, r1, r2, r3, hrM, DC_of (l62 _), sl, DC_of lr, nk, show ¬ (c : Int) < 0 by omega]
        refine lp.imp ?_
        rintro out ⟨h', f'⟩ ⟨rfl, l', ck', T2, hM2, hl2, hf2, hf3⟩
        simp only at T2 hl2 hf2 hf3
        simp [joined_eq]
        refine (hQ.next _ _ _ _ _ c r k ?_ ⟨hb, c1, .inl ⟨hok, hneg, c2', fun j hj => by simpa using c3 j hj⟩⟩ T2 hM2 (by omega) (by split <;> omega) (by split <;> omega)).2
        simp [RnFr, g0, g2]
      · rw [c2] at lr
        have le := empty71 hE T o hs hC hrm (e := 1) (.inl rfl)
        simp [g0, g2, DC_of lf, r6, lk1, r1, r2, r3, hrM, DC_of (l62 _), sl, DC_of lr, nk]
        refine le.imp ?_
        rintro out ⟨h', f'⟩ ⟨vY, rfl, hx, hf2, hY, b, hvY, hbb⟩
        simp only at hx hf2 hY
        have hj : joined ⟨h, f⟩ ⟨h', f'⟩ = ⟨h', f⟩ := joined_le (by omega)
        have hq' := get_ext hx hqc
        have hql' := (List.getElem?_eq_some_iff.1 hq').1
        have w : wrN h' q 0 [Value.int IntKind.i64 2, Value.slice none 0 0, Value.int IntKind.i64 0, vY, Value.int IntKind.i64 0, Value.slice none 0 0] = some (h'.set q (.cells [Value.int IntKind.i64 2, Value.slice none 0 0, Value.int IntKind.i64 0, vY, Value.int IntKind.i64 0, Value.slice none 0 0] 27 (some 0))) := by
          simp only [wrN, hq']
          rw [if_pos (by rw [hvY]; simp [zeroRes6, one1])]
          rfl
        simp [hj, g2, w]
        have hxl := hx.len
        refine hQ.none _ _ _ r vY (by simp [RnFr, g0, g2]) (by simp) (by simp) hrm (fun j hj => by simpa using c1 j hj) hneg ((T.keep.ext hx).set hq0 _) (by simp; omega) (by simp [hql']) ?_ (by omega)
        obtain ⟨aY, bY, oY, cY, e1, e2, e3, e4, e5⟩ := hY
        refine ⟨aY, bY, oY, cY, e1, e2, fun j hj => ?_, e4, e5⟩
        have e6 := e2 (by omega)
        rw [e1, e6] at hvY
        have e7 : bY = b := by simp at hvY; exact hvY.1.1
        rw [rd_set_other (by omega)]
        exact e3 j hj
    | none =>
      have hfr := hI.rowOf_none.1 hr
      have hat := hM.free hfr
      have lk1 := fun f => lk f k
      simp only [hat] at lk1
      have hneg : s.t L.m k < 0 := by simpa [WrongZ, hr] using hw
      have r2 := T.rdLp
      rw [hC] at r2
      have r3 := T.rdRows
      have hkN : k < L.N := by rw [L.N_eq]; omega
      simp [g0, g2, DC_of lf, r6, lk1, r2, DC_of (l62 _), nk]
      refine DW_loop (fun kk fr st => ∃ i : Nat, i + kk = L.n ∧ st = ⟨h, f⟩ ∧ RnFr L q fr ∧ get fr 5 = .int .i64 k ∧ get fr 55 = .int .i64 L.n ∧ get fr 56 = .int .i64 i ∧
        ((get fr 9 = .int .i64 (-1) ∧ ∀ r c, s.bas r = some c → c < i → s.t r k ≤ 0) ∨ ∃ r c : Nat, get fr 9 = .int .i64 r ∧ c < i ∧ s.bas r = some c ∧ 0 < s.t r k ∧ ∀ r' c', s.bas r' = some c' → c' < c → s.t r' k ≤ 0)) ?_ (k := L.n) ?_
      · rintro kk fr st ⟨i, hi, rfl, ⟨g0, g2⟩, g5, g55, g56, hout⟩
        by_cases hlt : i < L.n
        · have lk2 := fun f => lk f i
          cases hri : rowOf s L.m i with
          | none =>
            have hati := hM.free (hI.rowOf_none.1 hri)
            simp only [hati] at lk2
            simp [g0, g2, g5, g55, g56, hlt, r6, lk2]
            refine ⟨kk - 1, by omega, i + 1, by omega, by simp [RnFr, g0, g2], by rw [w64_id] <;> omega, ?_⟩
            rcases hout with ⟨h1, h2⟩ | ⟨r, c, h1, h2, h3, h4, h5⟩
            · exact .inl ⟨h1, fun r c hb hc => by
                by_cases e : c = i
                · subst e; exact absurd hb (hI.rowOf_none.1 hri r)
                · exact h2 r c hb (by omega)⟩
            · exact .inr ⟨r, h1, c, by omega, h3, h4, h5⟩
          | some r =>
            have hb := hI.rowOf_some.1 hri
            have hrm := hI.rowLt hb
            have hrM : r < L.M := by omega
            obtain ⟨j, hj⟩ := hM.found (fun i j c h1 h2 => hI.inj h1 h2) hb
            simp only [hj] at lk2
            have r1 := T.rdHdr hrM
            have r5 := T.rdRow (j := k) hrM hkN
            rcases hout with ⟨h1, h2⟩ | ⟨r', c, h1, h2, h3, h4, h5⟩
            · by_cases hpos : 0 < s.t r k
              · simp [g0, g2, g5, g55, g56, h1, hlt, r6, lk2, r3, r1, r5, hrM, hkN, hpos]
                exact ⟨kk - 1, by omega, i + 1, by omega, by simp [RnFr, g0, g2], by rw [w64_id] <;> omega, i, by omega, hb, h2⟩
              · simp [g0, g2, g5, g55, g56, h1, hlt, r6, lk2, r3, r1, r5, hrM, hkN, hpos]
                refine ⟨kk - 1, by omega, i + 1, by omega, by simp [RnFr, g0, g2], by rw [w64_id] <;> omega, fun r' c hb' hc => ?_⟩
                by_cases e : c = i
                · subst e; rw [hI.inj hb' hb]; omega
                · exact h2 r' c hb' (by omega)
            · simp [g0, g2, g5, g55, g56, h1, hlt, r6, lk2, show ¬ (r' : Int) < 0 by omega]
              exact ⟨kk - 1, by omega, i + 1, by omega, by simp [RnFr, g0, g2], by rw [w64_id] <;> omega, c, by omega, h3, h4, h5⟩
        · have : i = L.n := by omega
          subst this
          rcases hout with ⟨h1, h2⟩ | ⟨r', c, h1, h2, h3, h4, h5⟩
          · have wz : wrN h q 0 zeroRes6 = some h := by
              simp only [wrN, hqc]
              rw [if_pos (by simp [zeroRes6, one1])]
              have : setL zeroRes6 0 zeroRes6 = zeroRes6 := rfl
              rw [this, set_same hqc]
            simp only [zeroRes6] at wz
            simp [g0, g2, g5, g55, g56, h1, wz]
            exact hQ.ray _ _ _ _ _ k (by simp [RnFr, g0, g2]) (by simp) (by simp) T hM k1 hfr hneg (fun i c hb => h2 i c hb (hI.basic i c hb).1) hn0 (by omega)
          · have hp : s.t r' k ≠ 0 := by omega
            have hrm := hI.rowLt h3
            have lp := pivot69 (T0 := T0) hE T o hM hI hs hrm k1 hp fun i j hi hj => raw_small hp (hSm _ (hI.step hrm k1 hp)) hi hj
            simp [g0, g2, g5, g55, g56, h1, show ¬ (r' : Int) < 0 by omega]
            refine lp.imp ?_
            rintro out ⟨h', f'⟩ ⟨rfl, l', ck', T2, hM2, hl2, hf2, hf3⟩
            simp only at T2 hl2 hf2 hf3
            simp [joined_eq]
            refine (hQ.next _ _ _ _ _ k r' c ?_ ⟨h3, k1, .inr ⟨hok, fun ⟨i, hi⟩ => hfr i hi, hneg, h4, h5⟩⟩ T2 hM2 (by omega) (by split <;> omega) (by split <;> omega)).1
            simp [RnFr, g0, g2]
      · exact ⟨0, by simp, rfl, by simp [RnFr, g0, g2], by simp, by simp, by simp, .inl ⟨by simp, fun r c _ h => absurd h (by omega)⟩⟩
  · rw [k2] at lf
    have wz : wrN h q 0 zeroRes6 = some h := by
      simp only [wrN, hqc]
      rw [if_pos (by simp [zeroRes6, one1])]
      have : setL zeroRes6 0 zeroRes6 = zeroRes6 := rfl
      rw [this, set_same hqc]
    simp only [zeroRes6] at wz
    simp [g0, g2, DC_of lf, wz]
    exact hQ.done _ _ _ _ _ (by simp [RnFr, g0, g2]) (by simp) (by simp) T hM (fun c hc => by simpa using k1 c hc) hn0 (by omega)
end Go.Proofs.Ytdbkhecnkhjhpaa
/- The run of the rule, as a whole. -/
namespace Go.Proofs.Ytdbkhecnkhjhpaa
open Go Go.Ai
set_option linter.unusedSimpArgs false
set_option linter.unusedVariables false
attribute [local instance] Classical.propDecidable
variable {E : Env} (hE : LpE E) {h0 h : List O} {L : Lay} {s : Tab} {l : List (Int × Int × Nat)} {clock : Nat} {T0 : Nat → Nat → Int}

theorem DW_useKept {E : Env} (hS : SumsKept E) {r : R} {fr : Fr} {st : St} {Q : Post} (h : DW E r fr st fun e f s => Kept st s → Q e f s) : DW E r fr st Q := by
  obtain ⟨n, e, fr', st', h1, h2⟩ := h
  exact ⟨n, e, fr', st', h1, h2 (exec_kept hS n _ _ _ _ _ _ h1)⟩
theorem TabAt.backTo (T : TabAt h0 L s l clock h) (o : L.Ok h0) {H : List O} {s' : Tab} {l' : List (Int × Int × Nat)} {clock' : Nat} (T' : TabAt h0 L s' l' clock' H) (hk : ∀ b, b < h.length → H[b]? = h[b]?) : TabAt h0 L s' l' clock' h := by
  have lt : ∀ {b : Nat} {x : O}, h[b]? = some x → b < h.length := fun hb => (List.getElem?_eq_some_iff.1 hb).1
  exact ⟨T.keep, by rw [← hk _ (lt T.str)]; exact T'.str, by rw [← hk _ (lt T.hdr)]; exact T'.hdr, fun i hi => by rw [← hk _ (lt (T.row i hi))]; exact T'.row i hi, fun hm => by rw [← hk _ (lt (T.bas hm))]; exact T'.bas hm, by rw [← hk _ (lt T.map)]; exact T'.map, T.frame⟩
/-- A block is put into the frame. -/
def Lay.withF (L : Lay) (q : Nat) (x : O) : Lay := { L with F := fun b => if b = q then some x else L.F b }
theorem Lay.Ok.withF (o : L.Ok h0) {q : Nat} {x : O} (hq : q ≠ L.p ∧ q ≠ L.br ∧ q ≠ L.bm ∧ (0 < L.m → q ≠ L.bb) ∧ ∀ i, i < L.M → q ≠ L.rb i) : (L.withF q x).Ok h0 :=
  ⟨o.p, o.br, o.bb, o.bm, o.rb, o.inj, o.pbr, o.pbm, o.bbm, o.small, fun b y hb => by
    by_cases e : b = q
    · subst e; exact hq
    · simp only [Lay.withF, if_neg e] at hb; exact o.frame b y hb⟩
theorem TabAt.withF (T : TabAt h0 L s l clock h) {q : Nat} {x : O} (hq : h[q]? = some x) : TabAt h0 (L.withF q x) s l clock h :=
  ⟨T.keep, T.str, T.hdr, T.row, T.bas, T.map, fun b y hb => by
    by_cases e : b = q
    · subst e; simp only [Lay.withF, if_pos] at hb; cases hb; exact hq
    · simp only [Lay.withF, if_neg e] at hb; exact T.frame b y hb⟩
theorem TabAt.noF {q : Nat} {x : O} (o : L.Ok h0) (hF : L.F q = none) (T : TabAt h0 (L.withF q x) s l clock h) : TabAt h0 L s l clock h :=
  ⟨T.keep, T.str, T.hdr, T.row, T.bas, T.map, fun b y hb => T.frame b y (by
    simp only [Lay.withF]
    rw [if_neg]
    · exact hb
    · intro e; subst e; rw [hF] at hb; cases hb)⟩
theorem TabAt.fresh (T : TabAt h0 L s l clock h) {q : Nat} (hq : h.length ≤ q) : (q ≠ L.p ∧ q ≠ L.br ∧ q ≠ L.bm ∧ (0 < L.m → q ≠ L.bb) ∧ ∀ i, i < L.M → q ≠ L.rb i) ∧ L.F q = none := by
  have lt : ∀ {b : Nat} {x : O}, h[b]? = some x → q ≠ b := fun hb e => by
    have := (List.getElem?_eq_some_iff.1 hb).1; omega
  refine ⟨⟨lt T.str, lt T.hdr, lt T.map, fun hm => lt (T.bas hm), fun i hi => lt (T.row i hi)⟩, ?_⟩
  cases hF : L.F q with
  | none => rfl
  | some x => exact absurd rfl (lt (T.frame q x hF))

/-- The loop of the rule. -/
theorem rnLoop (hE : LpE E) (T : TabAt h0 L s l clock h) (o : L.Ok h0) (hM : MapOk L.m s.bas l clock) (hI : TInv L.m L.n T0 s) (hz : ZeroR L.m L.n s) (hT0 : T0 L.m (L.n + L.m) = 0) (hSm : ∀ s, TInv L.m L.n T0 s → Small L s) {a : Option Addr} {cc : Nat} (hC : L.vC = .slice a L.n cc) {q : Nat} (hq : L.F q = some (.cells zeroRes6 27 (some 0)))
    {n0 : Nat} (hn0 : n0 ≤ h.length) (hq0 : h0.length ≤ q) {fr : Fr} (hf : RnFr L q fr) {f : Nat} (hfl : h0.length ≤ f) (hfu : f ≤ h.length) {Q : Post}
    (hQ : ∀ s', TInv L.m L.n T0 s' → ZeroR L.m L.n s' → RnQ h0 L T0 s' q n0 fun e fr st => match e with | .ret => Q .ret fr st | _ => True) : DW E (.loop (.block 1 rnB)) fr ⟨h, f⟩ Q := by
  refine DW_loop (fun kk fr st => ∃ t s' l' ck' h' f', kk + t = 2 ^ L.n ∧ Path L.m L.n T0 t s' ∧ st = ⟨h', f'⟩ ∧ RnFr L q fr ∧ TabAt h0 L s' l' ck' h' ∧ MapOk L.m s'.bas l' ck' ∧ n0 ≤ h'.length ∧ h0.length ≤ f' ∧ f' ≤ h'.length) ?_ (k := 2 ^ L.n)
    ⟨0, s, l, clock, h, f, rfl, Path.zero hI hz, rfl, hf, T, hM, hn0, hfl, hfu⟩
  rintro kk fr st ⟨t, s', l', ck', h', f', hkt, hp, rfl, hf', T', hM', hn', hfl', hfu'⟩
  obtain ⟨hI', hz'⟩ := hp.inv
  have hx := hQ s' hI' hz'
  rw [DW_block]
  refine rnB_ok hE T' o hM' hI' hSm hC hq hn' hq0 hf' hfl' hfu' ⟨fun fr h l clock f a1 a2 a3 a4 a5 a6 a7 a8 => hx.done fr h l clock f a1 a2 a3 a4 a5 a6 a7 a8,
    fun fr h f r vY a1 a2 a3 a4 a5 a6 a7 a8 a9 a10 a11 => hx.none fr h f r vY a1 a2 a3 a4 a5 a6 a7 a8 a9 a10 a11,
    fun fr h l clock f k a1 a2 a3 a4 a5 a6 a7 a8 a9 a10 a11 => hx.ray fr h l clock f k a1 a2 a3 a4 a5 a6 a7 a8 a9 a10 a11, fun fr h l clock f e r ll a1 a2 a3 a4 a5 a6 a7 => ?_⟩
  have hp' := hp.snoc a2
  have hs := hp'.short hT0
  have key : ∃ k', k' < kk ∧ ∃ t s' l' ck' h' f', k' + t = 2 ^ L.n ∧ Path L.m L.n T0 t s' ∧ (⟨h, f⟩ : St) = ⟨h', f'⟩ ∧ RnFr L q fr ∧ TabAt h0 L s' l' ck' h' ∧ MapOk L.m s'.bas l' ck' ∧ n0 ≤ h'.length ∧ h0.length ≤ f' ∧ f' ≤ h'.length :=
    ⟨kk - 1, by omega, t + 1, _, _, _, _, _, by omega, hp', rfl, a1, a3, a4, a5, a6, a7⟩
  exact ⟨key, by rw [blockK_exit, if_pos rfl]; exact key⟩
end Go.Proofs.Ytdbkhecnkhjhpaa
/- What the rule's run returns. -/
namespace Go.Proofs.Ytdbkhecnkhjhpaa
open Go Go.Ai
set_option linter.unusedSimpArgs false
set_option linter.unusedVariables false
attribute [local instance] Classical.propDecidable
variable {E : Env} (hE : LpE E) {h0 h : List O} {L : Lay} {s : Tab} {l : List (Int × Int × Nat)} {clock : Nat} {T0 : Nat → Nat → Int}

def rnA : R := match rb59 with | .seq a _ => a | _ => .skip
theorem rb59_eq2 : rb59 = .seq rnA (.block 0 (.loop (.block 1 rnB))) := rfl
/-- What run comes to. -/
def RunPost (h0 : List O) (L : Lay) (T0 : Nat → Nat → Int) (out : Out) (H : List O) : Prop := ∃ s', TInv L.m L.n T0 s' ∧ ZeroR L.m L.n s' ∧
  ((∃ l' ck', out = .ret (.tuple #[.agg zeroRes6.toArray, .int .i64 (-1), .bool false]) ∧ TabAt h0 L s' l' ck' H ∧ MapOk L.m s'.bas l' ck' ∧ ∀ c, c < L.n → ¬ WrongZ L s' c) ∨
   (∃ r vY, out = .ret (.tuple #[.agg #[.int .i64 2, .slice none 0 0, .int .i64 0, vY, .int .i64 0, .slice none 0 0], .int .i64 (-1), .bool true]) ∧ r < L.m ∧ (∀ j, j < L.n → 0 ≤ s'.t r j) ∧ s'.t r (L.n + L.m) < 0 ∧ Keep h0 H ∧ Ints H vY (lowL (listF L.m fun k => 1 * s'.t r (L.n + k)))) ∨
   (∃ l' ck', ∃ k : Nat, out = .ret (.tuple #[.agg zeroRes6.toArray, .int .i64 k, .bool false]) ∧ TabAt h0 L s' l' ck' H ∧ MapOk L.m s'.bas l' ck' ∧ k < L.n ∧ (∀ i, s'.bas i ≠ some k) ∧ s'.t L.m k < 0 ∧ ∀ i c, s'.bas i = some c → s'.t i k ≤ 0))
theorem rdN6 {H : List O} {q : Nat} {cs : List Value} {el : TypeId} {own : Option Nat} (hq : H[q]? = some (.cells cs el own)) (hl : cs.length = 6) : rdN H q 0 6 = some cs := by
  simp only [rdN, hq]
  rw [if_pos (by omega), List.drop_zero, List.take_of_length_le (by omega)]
theorem res59 {fr : Fr} {H : List O} {q : Nat} {cs : List Value} {v3 v4 : Value} (h2 : get fr 2 = .pointer (some ⟨q, 0, none⟩)) (h3 : get fr 3 = v3) (h4 : get fr 4 = v4) (hr : rdN H q 0 6 = some cs) : resV fr H [.cell 2 (some 6), .tmp 3, .tmp 4] = some (.tuple #[.agg cs.toArray, v3, v4]) := by
  simp [resV, resAll, resOne, h2, h3, h4, hr]
theorem run59 (hE : LpE E) (hS : SumsKept E) (T : TabAt h0 L s l clock h) (o : L.Ok h0) (hM : MapOk L.m s.bas l clock) (hI : TInv L.m L.n T0 s) (hz : ZeroR L.m L.n s) (hT0 : T0 L.m (L.n + L.m) = 0) (hSm : ∀ s, TInv L.m L.n T0 s → Small L s) {a : Option Addr} {cc : Nat} (hC : L.vC = .slice a L.n cc) :
    DC E 59 [.pointer (some ⟨L.p, 0, none⟩)] ⟨h, h.length⟩ fun out st' => RunPost h0 L T0 out st'.h ∧ h.length ≤ st'.h.length ∧ h0.length ≤ st'.fl := by
  refine hE.fnC (body := rb59) rfl (by decide) ?_
  refine DW_useKept hS ?_
  rw [rb59_eq2, DW_seq]
  show DW E (.ops false [⟨some 2, none, .new 27 zeroRes6, 0⟩, ⟨some 3, none, .mv (.const (.int .i64 0)), 0⟩, ⟨some 4, none, .mv (.const (.bool false)), 0⟩]) _ _ _
  rw [DW_ops]
  refine DL_newC fun h1 q hx hlen hq hqc => ?_
  have hk0 := T.keep.1
  obtain ⟨fr1, fr2⟩ := T.fresh (q := q) (by omega)
  have T1 := (T.ext hx).withF hqc
  simp
  have key : ∀ (v : Value) (st' : St), Kept ⟨h, h.length⟩ st' → (∃ s' l' ck', TInv L.m L.n T0 s' ∧ ZeroR L.m L.n s' ∧ TabAt h0 L s' l' ck' st'.h ∧ ∀ H, TabAt h0 L s' l' ck' H → RunPost h0 L T0 (.ret v) H) → h0.length ≤ st'.fl → h.length ≤ st'.h.length →
      RunPost h0 L T0 (back ⟨h, h.length⟩ (.ret v) st').1 (back ⟨h, h.length⟩ (.ret v) st').2.h ∧ h.length ≤ (back ⟨h, h.length⟩ (.ret v) st').2.h.length ∧ h0.length ≤ (back ⟨h, h.length⟩ (.ret v) st').2.fl := by
    rintro v st' hk ⟨s', l', ck', b1, b2, b3, b4⟩ hfl hln
    unfold back
    split
    · rename_i hc
      simp only [Bool.and_eq_true, decide_eq_true_eq] at hc
      exact ⟨b4 _ (T.backTo o b3 fun b hb => hk.same b hb (Nat.lt_of_lt_of_le hb hc.2)), Nat.le_refl _, hk0⟩
    · exact ⟨b4 _ b3, hln, hfl⟩
  refine rnLoop hE T1 (o.withF fr1) hM hI hz hT0 hSm hC (q := q) (n0 := h.length) (by simp [Lay.withF, zeroRes6]) (by omega) (by omega) (by simp [RnFr, Lay.withF]) (by omega) (by omega) fun s' hI' hz' => ?_
  refine ⟨fun fr H l' ck' f g1 g3 g4 T2 hM2 hw hn hf => ?_, fun fr H f r vY g1 g3 g4 hr hpos hneg hkp hn hq2 hY hf => ?_, fun fr H l' ck' f k g1 g3 g4 T2 hM2 hk1 hk2 hk3 hk4 hn hf => ?_, fun fr h l clock f e r ll _ _ _ _ _ _ _ => ⟨trivial, trivial⟩⟩
  · intro hk
    have hqv := T2.frame q _ (by simp [Lay.withF]; rfl)
    rw [endK_ret]
    refine ⟨.tuple #[.agg zeroRes6.toArray, .int .i64 (-1), .bool false], ?_, ?_⟩
    · exact res59 g1.2 g3 g4 (rdN6 hqv rfl)
    · exact key _ _ hk ⟨s', l', ck', hI', hz', T2.noF o fr2, fun H TH => ⟨s', hI', hz', .inl ⟨l', ck', rfl, TH, hM2, hw⟩⟩⟩ hf hn
  · intro hk
    rw [endK_ret]
    refine ⟨_, res59 g1.2 g3 g4 (rdN6 hq2 rfl), ?_⟩
    have hsc : (Out.ret (.tuple #[.agg [Value.int .i64 2, .slice none 0 0, .int .i64 0, vY, .int .i64 0, .slice none 0 0].toArray, .int .i64 (-1), .bool true])).scalar = false := by
      obtain ⟨aY, bY, oY, cY, rfl, e2, _⟩ := hY
      have hl0 : 0 < (lowL (listF L.m fun k => 1 * s'.t r (L.n + k))).length := by rw [lowL_length, listF_length]; exact Nat.lt_of_le_of_lt (Nat.zero_le _) hr
      obtain rfl := e2 hl0
      simp [Out.scalar, scalar, flat1, flat]
    unfold back
    rw [hsc, Bool.false_and, if_neg (by decide)]
    exact ⟨⟨s', hI', hz', .inr (.inl ⟨r, vY, rfl, hr, hpos, hneg, hkp, hY⟩)⟩, hn, hf⟩
  · intro hk
    have hqv := T2.frame q _ (by simp [Lay.withF]; rfl)
    rw [endK_ret]
    refine ⟨.tuple #[.agg zeroRes6.toArray, .int .i64 k, .bool false], ?_, ?_⟩
    · exact res59 g1.2 g3 g4 (rdN6 hqv rfl)
    · exact key _ _ hk ⟨s', l', ck', hI', hz', T2.noF o fr2, fun H TH => ⟨s', hI', hz', .inr (.inr ⟨l', ck', k, rfl, TH, hM2, hk1, hk2, hk3, hk4⟩)⟩⟩ hf hn
end Go.Proofs.Ytdbkhecnkhjhpaa
/- The first columns of the basis. -/
namespace Go.Proofs.Ytdbkhecnkhjhpaa
open Go Go.Ai
set_option linter.unusedSimpArgs false
set_option linter.unusedVariables false
attribute [local instance] Classical.propDecidable
variable {E : Env} (hE : LpE E) {h0 h : List O} {L : Lay} {s : Tab} {l : List (Int × Int × Nat)} {clock : Nat} {T0 : Nat → Nat → Int}

theorem zero_step (hI : TInv L.m L.n T0 s) {r c i : Nat} (hr : r < L.m) (hc : c < L.n) (hi : i < L.m) (hn : i ≠ r) (hz : (∀ j, j < L.n → s.t i j = 0) ∧ s.t i (L.n + L.m) = 0) :
    (∀ j, j < L.n → (Ai.stepT s r c).t i j = 0) ∧ (Ai.stepT s r c).t i (L.n + L.m) = 0 := by
  have h0 : s.den ≠ 0 := by have := hI.pos; omega
  have raw0 : ∀ j, j < L.n + L.m + 1 → s.t i j = 0 → rawT s r c i j = 0 := fun j hj hzj => by
    refine cancelZ h0 ?_
    rw [hI.raw (by omega) (by omega) (by omega) hn hj, hzj, hz.1 c hc]; grind
  exact ⟨fun j hj => by simp only [Ai.stepT]; rw [raw0 j (by omega) (hz.1 j hj), Int.mul_zero], by simp only [Ai.stepT]; rw [raw0 _ (by omega) hz.2, Int.mul_zero]⟩
/-- What start comes to. -/
def StartPost (h0 : List O) (L : Lay) (T0 : Nat → Nat → Int) (out : Out) (H : List O) : Prop := ∃ s', TInv L.m L.n T0 s' ∧
  ((∃ l' ck', out = .ret (.tuple #[.agg zeroRes6.toArray, .bool false]) ∧ TabAt h0 L s' l' ck' H ∧ MapOk L.m s'.bas l' ck' ∧ ZeroR L.m L.n s') ∨
   (∃ r vY, ∃ e : Int, out = .ret (.tuple #[.agg #[.int .i64 2, .slice none 0 0, .int .i64 0, vY, .int .i64 0, .slice none 0 0], .bool true]) ∧ (e = 1 ∨ e = -1) ∧ r < L.m ∧ (∀ j, j < L.n → s'.t r j = 0) ∧ e * s'.t r (L.n + L.m) < 0 ∧ Keep h0 H ∧ Ints H vY (lowL (listF L.m fun k => e * s'.t r (L.n + k)))))
theorem res58 {fr : Fr} {H : List O} {q : Nat} {cs : List Value} {v3 : Value} (h2 : get fr 2 = .pointer (some ⟨q, 0, none⟩)) (h3 : get fr 3 = v3) (hr : rdN H q 0 6 = some cs) : resV fr H [.cell 2 (some 6), .tmp 3] = some (.tuple #[.agg cs.toArray, v3]) := by
  simp [resV, resAll, resOne, h2, h3, hr]
/-- The ways out of start's rounds. -/
structure StQ (h0 : List O) (L : Lay) (T0 : Nat → Nat → Int) (q n0 : Nat) (Q : Post) : Prop where
  none : ∀ s fr h f r vY, ∀ e : Int, TInv L.m L.n T0 s → RnFr L q fr → get fr 3 = .bool true → (e = 1 ∨ e = -1) → r < L.m → (∀ j, j < L.n → s.t r j = 0) → e * s.t r (L.n + L.m) < 0 → Keep h0 h → n0 ≤ h.length →
    h[q]? = some (.cells [.int .i64 2, .slice none 0 0, .int .i64 0, vY, .int .i64 0, .slice none 0 0] 27 (some 0)) → Ints h vY (lowL (listF L.m fun k => e * s.t r (L.n + k))) → h0.length ≤ f → Q .ret fr ⟨h, f⟩
  done : ∀ s fr h l clock f, TInv L.m L.n T0 s → RnFr L q fr → TabAt h0 L s l clock h → MapOk L.m s.bas l clock → ZeroR L.m L.n s → n0 ≤ h.length → h0.length ≤ f → f ≤ h.length → Q (.exit 0) fr ⟨h, f⟩

def stL : R := match rb58 with | .seq _ (.seq (.seq _ (.block _ l)) _) => l | _ => .skip
theorem stLoop (hE : LpE E) (T : TabAt h0 L s l clock h) (o : L.Ok h0) (hM : MapOk L.m s.bas l clock) (hI : TInv L.m L.n T0 s) (hb : ∀ i, s.bas i = none) (hSm : ∀ s, TInv L.m L.n T0 s → Small L s) {a : Option Addr} {cc : Nat} (hC : L.vC = .slice a L.n cc) {q : Nat} (hq : L.F q = some (.cells zeroRes6 27 (some 0)))
    {n0 : Nat} (hn0 : n0 ≤ h.length) (hq0 : h0.length ≤ q) {fr : Fr} (hf : RnFr L q fr) (g10 : get fr 10 = .int .i64 L.m) (g11 : get fr 11 = .int .i64 0) {f : Nat} (hfl : h0.length ≤ f) (hfu : f ≤ h.length) {Q : Post} (hQ : StQ h0 L T0 q n0 Q) : DW E stL fr ⟨h, f⟩ Q := by
  have sm := o.small
  show DW E (match rb58 with | .seq _ (.seq (.seq _ (.block _ l)) _) => l | _ => .skip) fr ⟨h, f⟩ Q
  unfold rb58
  refine DW_loop (fun kk fr st => ∃ i, ∃ s' l' ck' h' f', i + kk = L.m ∧ st = ⟨h', f'⟩ ∧ RnFr L q fr ∧ get fr 10 = .int .i64 L.m ∧ get fr 11 = .int .i64 i ∧ TInv L.m L.n T0 s' ∧ TabAt h0 L s' l' ck' h' ∧ MapOk L.m s'.bas l' ck' ∧
    (∀ r, r < i → s'.bas r = none → (∀ j, j < L.n → s'.t r j = 0) ∧ s'.t r (L.n + L.m) = 0) ∧ (∀ r, i ≤ r → s'.bas r = none) ∧ n0 ≤ h'.length ∧ h0.length ≤ f' ∧ f' ≤ h'.length) ?_ (k := L.m)
    ⟨0, s, l, clock, h, f, by simp, rfl, hf, g10, by simpa using g11, hI, T, hM, fun r hr => absurd hr (by omega), fun r _ => hb r, hn0, hfl, hfu⟩
  rintro kk fr st ⟨i, s', l', ck', h', f', hik, rfl, ⟨g0, g2⟩, g10, g11, hI', T', hM', hzr, hbn, hn', hfl', hfu'⟩
  by_cases hlt : i < L.m
  · have hiM : i < L.M := by rw [L.M_eq]; omega
    have hs := hSm s' hI'
    have r1 := T'.rdHdr hiM
    have r2 := T'.rdLp
    rw [hC] at r2
    have r3 := T'.rdRows
    have hqc := T'.frame q _ hq
    have l62 : ∀ h, DR E 62 [.agg #[L.vA, L.vB, .slice a L.n cc]] ⟨h, h.length⟩ (.ret (.int .i64 L.n)) ⟨h, h.length⟩ := fun h => cols62 hE
    have lr := rowFirst hE T' o hs hiM (c := L.N) (p := fun x => decide (x ≠ 0)) fun x => nz68 hE x
    have sl := sliceV_hi (h := h') (b := L.rb i) (o := 0) (len := L.N) (cap := L.N) (hi := L.n) (T'.tag hiM) (by rw [L.N_eq]; omega) (by rw [L.N_eq]; omega)
    have l70 := right70 hE T' o hC hiM
    rcases firstI_cases (fun j => decide (s'.t i j ≠ 0)) L.n with ⟨c, c1, c2, c3, c4⟩ | ⟨c1, c2⟩
    · rw [c4] at lr
      have hp : s'.t i c ≠ 0 := by simpa using c2
      have lp := pivot69 (T0 := T0) hE T' o hM' hI' hs hlt c1 hp fun x j hx hj => raw_small hp (hSm _ (hI'.step hlt c1 hp)) hx hj
      simp [g0, g2, g10, g11, hlt, r1, r2, r3, hiM, DC_of (l62 _), sl, DC_of lr, show ¬ (c : Int) < 0 by omega]
      refine lp.imp ?_
      rintro out ⟨h2, f2⟩ ⟨rfl, l2, ck2, T2, hM2, hl2, hf2, hf3⟩
      simp only at T2 hl2 hf2 hf3
      simp [joined_eq, g10, g11]
      refine ⟨kk - 1, by omega, i + 1, by omega, Ai.stepT s' i c, l2, ck2, _, _, ⟨rfl, rfl⟩, by simp [RnFr, g0, g2], by rw [w64_id] <;> omega, hI'.step hlt c1 hp, T2, hM2, fun r hr hbr => ?_, fun r hr => ?_, by omega, by split <;> omega, by split <;> omega⟩
      · have hri : r ≠ i := by
          intro e; subst e; simp [Ai.stepT] at hbr
        have hbr' : s'.bas r = none := by simpa [Ai.stepT, hri] using hbr
        exact zero_step hI' hlt c1 (by omega) hri (hzr r (by omega) hbr')
      · have hri : r ≠ i := by omega
        simpa [Ai.stepT, hri] using hbn r (by omega)
    · rw [c2] at lr
      have hzero : ∀ j, j < L.n → s'.t i j = 0 := fun j hj => by simpa using c1 j hj
      simp [g0, g2, g10, g11, hlt, r1, r2, r3, hiM, DC_of (l62 _), sl, DC_of lr, DC_of l70]
      have fin : ∀ e : Int, (e = 1 ∨ e = -1) → e * s'.t i (L.n + L.m) < 0 → ∀ (fr : Fr) (h2 : List O) (f2 : Nat) (vY : Value) (b : Nat), RnFr L q fr → get fr 3 = .bool true → Ext h' h2 → Ints h2 vY (lowL (listF L.m fun k => e * s'.t i (L.n + k))) → vY = .slice (some ⟨b, 0, none⟩) L.m L.m → h'.length ≤ b → h0.length ≤ f2 →
          Q .ret fr ⟨h2.set q (.cells [Value.int IntKind.i64 2, Value.slice none 0 0, Value.int IntKind.i64 0, vY, Value.int IntKind.i64 0, Value.slice none 0 0] 27 (some 0)), f2⟩ := by
        intro e he hneg fr h2 f2 vY b hf hg3 hx hY hvY hbb hf2
        have hq' := get_ext hx hqc
        have hql := (List.getElem?_eq_some_iff.1 hqc).1
        have hql' := (List.getElem?_eq_some_iff.1 hq').1
        have hxl := hx.len
        refine hQ.none s' fr _ f2 i vY e hI' hf hg3 he hlt hzero hneg ((T'.keep.ext hx).set hq0 _) (by simp; omega) (by simp [hql']) ?_ hf2
        obtain ⟨aY, bY, oY, cY, e1, e2, e3, e4, e5⟩ := hY
        refine ⟨aY, bY, oY, cY, e1, e2, fun j hj => ?_, e4, e5⟩
        have e6 := e2 (by omega)
        rw [e1, e6] at hvY
        have e7 : bY = b := by simp at hvY; exact hvY.1.1
        rw [rd_set_other (by omega)]
        exact e3 j hj
      have wq : ∀ h2 vY b, Ext h' h2 → vY = .slice (some ⟨b, 0, none⟩) L.m L.m → wrN h2 q 0 [Value.int IntKind.i64 2, Value.slice none 0 0, Value.int IntKind.i64 0, vY, Value.int IntKind.i64 0, Value.slice none 0 0] = some (h2.set q (.cells [Value.int IntKind.i64 2, Value.slice none 0 0, Value.int IntKind.i64 0, vY, Value.int IntKind.i64 0, Value.slice none 0 0] 27 (some 0))) := fun h2 vY b hx hvY => by
        simp only [wrN, get_ext hx hqc]
        rw [if_pos (by rw [hvY]; simp [zeroRes6, one1])]
        rfl
      have hql := (List.getElem?_eq_some_iff.1 hqc).1
      by_cases p1 : 0 < s'.t i (L.n + L.m)
      · have le := empty71 hE T' o hs hC hlt (e := -1) (.inr rfl)
        simp [p1, g0, g2]
        refine le.imp ?_
        rintro out ⟨h2, f2⟩ ⟨vY, rfl, hx, hf2, hY, b, hvY, hbb⟩
        simp only at hx hf2 hY
        have hj : joined ⟨h', f'⟩ ⟨h2, f2⟩ = ⟨h2, f'⟩ := joined_le (by omega)
        simp [hj, g2, wq h2 vY b hx hvY]
        exact fin (-1) (.inr rfl) (by omega) _ h2 _ vY b (by simp [RnFr, g0, g2]) (by simp) hx hY hvY hbb (by omega)
      · by_cases p2 : s'.t i (L.n + L.m) < 0
        · have le := empty71 hE T' o hs hC hlt (e := 1) (.inl rfl)
          simp [p1, p2, g0, g2, DC_of l70]
          refine le.imp ?_
          rintro out ⟨h2, f2⟩ ⟨vY, rfl, hx, hf2, hY, b, hvY, hbb⟩
          simp only at hx hf2 hY
          have hj : joined ⟨h', f'⟩ ⟨h2, f2⟩ = ⟨h2, f'⟩ := joined_le (by omega)
          simp [hj, g2, wq h2 vY b hx hvY]
          exact fin 1 (.inl rfl) (by omega) _ h2 _ vY b (by simp [RnFr, g0, g2]) (by simp) hx hY hvY hbb (by omega)
        · simp [p1, p2, g0, g2, g10, g11, DC_of l70]
          refine ⟨kk - 1, by omega, i + 1, by omega, s', l', ck', h', f', ⟨rfl, rfl⟩, by simp [RnFr, g0, g2], by rw [w64_id] <;> omega, hI', T', hM', fun r hr hbr => ?_, fun r hr => hbn r (by omega), hn', hfl', hfu'⟩
          by_cases e : r = i
          · subst e; exact ⟨hzero, by omega⟩
          · exact hzr r (by omega) hbr
  · have : i = L.m := by omega
    subst this
    simp [g0, g2, g10, g11]
    exact hQ.done s' _ _ l' ck' _ hI' (by simp [RnFr, g0, g2]) T' hM' (fun r hr hb => hzr r hr hb) hn' hfl' hfu'
end Go.Proofs.Ytdbkhecnkhjhpaa
/- What start returns. -/
namespace Go.Proofs.Ytdbkhecnkhjhpaa
open Go Go.Ai
set_option linter.unusedSimpArgs false
set_option linter.unusedVariables false
attribute [local instance] Classical.propDecidable
variable {E : Env} (hE : LpE E) {h0 h : List O} {L : Lay} {s : Tab} {l : List (Int × Int × Nat)} {clock : Nat} {T0 : Nat → Nat → Int}

def stA : R := match rb58 with | .seq a _ => a | _ => .skip
def stB : R := match rb58 with | .seq _ (.seq (.seq b _) _) => b | _ => .skip
def stZ : R := match rb58 with | .seq _ (.seq _ z) => z | _ => .skip
theorem rb58_eq : rb58 = .seq stA (.seq (.seq stB (.block 0 stL)) stZ) := rfl
theorem start58 (hE : LpE E) (hS : SumsKept E) (T : TabAt h0 L s l clock h) (o : L.Ok h0) (hM : MapOk L.m s.bas l clock) (hI : TInv L.m L.n T0 s) (hb : ∀ i, s.bas i = none) (hSm : ∀ s, TInv L.m L.n T0 s → Small L s) {a : Option Addr} {cc : Nat} (hC : L.vC = .slice a L.n cc) :
    DC E 58 [.pointer (some ⟨L.p, 0, none⟩)] ⟨h, h.length⟩ fun out st' => StartPost h0 L T0 out st'.h ∧ h.length ≤ st'.h.length ∧ h0.length ≤ st'.fl := by
  refine hE.fnC (body := rb58) rfl (by decide) ?_
  refine DW_useKept hS ?_
  rw [rb58_eq, DW_seq]
  show DW E (.ops false [⟨some 2, none, .new 27 zeroRes6, 0⟩, ⟨some 3, none, .mv (.const (.bool false)), 0⟩]) _ _ _
  rw [DW_ops]
  refine DL_newC fun h1 q hx hlen hq hqc => ?_
  have hk0 := T.keep.1
  obtain ⟨fr1, fr2⟩ := T.fresh (q := q) (by omega)
  have T1 := (T.ext hx).withF hqc
  obtain ⟨aB, hB, hB2⟩ := o.basSlice
  have r5 := (T.ext hx).rdBas
  rw [hB] at r5
  simp
  have key : ∀ (v : Value) (st' : St), Kept ⟨h, h.length⟩ st' → (∃ s' l' ck', TInv L.m L.n T0 s' ∧ TabAt h0 L s' l' ck' st'.h ∧ ∀ H, TabAt h0 L s' l' ck' H → StartPost h0 L T0 (.ret v) H) → h0.length ≤ st'.fl → h.length ≤ st'.h.length →
      StartPost h0 L T0 (back ⟨h, h.length⟩ (.ret v) st').1 (back ⟨h, h.length⟩ (.ret v) st').2.h ∧ h.length ≤ (back ⟨h, h.length⟩ (.ret v) st').2.h.length ∧ h0.length ≤ (back ⟨h, h.length⟩ (.ret v) st').2.fl := by
    rintro v st' hk ⟨s', l', ck', b1, b3, b4⟩ hfl hln
    unfold back
    split
    · rename_i hc
      simp only [Bool.and_eq_true, decide_eq_true_eq] at hc
      exact ⟨b4 _ (T.backTo o b3 fun b hb => hk.same b hb (Nat.lt_of_lt_of_le hb hc.2)), Nat.le_refl _, hk0⟩
    · exact ⟨b4 _ b3, hln, hfl⟩
  show DW E (match rb58 with | .seq _ (.seq (.seq b _) _) => b | _ => .skip) _ _ _
  unfold rb58
  simp [r5]
  refine stLoop hE T1 (o.withF fr1) hM hI hb hSm hC (q := q) (n0 := h.length) (by simp [Lay.withF, zeroRes6]) (by omega) (by omega) (by simp [RnFr, Lay.withF]) (by simp [Lay.withF]) (by simp) (by omega) (by omega) ⟨fun s' fr H f r vY e hI' g1 g3 he hr hz hneg hkp hn hq2 hY hf => ?_, fun s' fr H l' ck' f hI' g1 T2 hM2 hz hn hf hfu => ?_⟩
  · intro hk
    rw [endK_ret]
    refine ⟨_, res58 g1.2 g3 (rdN6 hq2 rfl), ?_⟩
    have hsc : (Out.ret (.tuple #[.agg [Value.int .i64 2, .slice none 0 0, .int .i64 0, vY, .int .i64 0, .slice none 0 0].toArray, .bool true])).scalar = false := by
      obtain ⟨aY, bY, oY, cY, rfl, e2, _⟩ := hY
      have hl0 : 0 < (lowL (listF L.m fun k => e * s'.t r (L.n + k))).length := by rw [lowL_length, listF_length]; exact Nat.lt_of_le_of_lt (Nat.zero_le _) hr
      obtain rfl := e2 hl0
      simp [Out.scalar, scalar, flat1, flat]
    unfold back
    rw [hsc, Bool.false_and, if_neg (by decide)]
    exact ⟨⟨s', hI', .inr ⟨r, vY, e, rfl, he, hr, hz, hneg, hkp, hY⟩⟩, hn, hf⟩
  · rw [blockK_exit, if_pos rfl]
    simp only [seqK_normal]
    have hqv : H[q]? = some (.cells zeroRes6 27 (some 0)) := T2.frame q _ (by simp [Lay.withF])
    have wz : wrN H q 0 zeroRes6 = some H := by
      simp only [wrN, hqv]
      rw [if_pos (by simp [zeroRes6, one1])]
      have : setL zeroRes6 0 zeroRes6 = zeroRes6 := rfl
      rw [this, set_same hqv]
    have hql := (List.getElem?_eq_some_iff.1 hqv).1
    have rz := rdN6 hqv rfl
    show DW E (match rb58 with | .seq _ (.seq _ z) => z | _ => .skip) _ _ _
    unfold rb58
    simp only [zeroRes6] at wz
    simp [g1.1, g1.2, wz]
    intro hk
    refine ⟨.tuple #[.agg zeroRes6.toArray, .bool false], res58 (by simp [g1.2]) (by simp) rz, ?_⟩
    exact key _ _ hk ⟨s', l', ck', hI', T2.noF o fr2, fun H TH => ⟨s', hI', .inl ⟨l', ck', rfl, TH, hM2, hz⟩⟩⟩ (by simp only; omega) hn
end Go.Proofs.Ytdbkhecnkhjhpaa
/- The size of a program bounds its tableaux. -/
namespace Go.Proofs.Ytdbkhecnkhjhpaa
open Go Go.Ai
set_option linter.unusedSimpArgs false
set_option linter.unusedVariables false
attribute [local instance] Classical.propDecidable

/-- The first tableau's entries. -/
def T0Z (A : List (List Int)) (B C : List Int) (i j : Nat) : Int :=
  if i < A.length then (if j < C.length then nth (nthR A i) j else if j < C.length + A.length then (if j = C.length + i then 1 else 0) else nth B i)
  else if j < C.length then nth C j else 0
theorem T0Z_id {A : List (List Int)} {B C : List Int} (i k : Nat) (hi : i < A.length + 1) (hk : k < A.length) : T0Z A B C i (C.length + k) = unitV k i := by
  simp only [T0Z, unitV]
  by_cases h : i < A.length
  · rw [if_pos h, if_neg (by omega), if_pos (by omega)]
    by_cases e : i = k
    · rw [if_pos (by omega), if_pos e]
    · rw [if_neg (by omega), if_neg e]
  · rw [if_neg h, if_neg (by omega), if_neg (by omega)]
theorem T0Z_cost {A : List (List Int)} {B C : List Int} : T0Z A B C A.length (C.length + A.length) = 0 := by
  simp only [T0Z]
  rw [if_neg (by omega), if_neg (by omega)]
theorem rowW_row {A : List (List Int)} {B C : List Int} (hv : Valid A B C) {i : Nat} (hi : i < A.length) : rowW A.length C.length (T0Z A B C) i = allZ (nthR A i ++ [nth B i]) := by
  obtain ⟨v1, v2, v3, v4, v5, v6, v7⟩ := hv
  have hr := (v7 i hi).1
  simp only [rowW, allZ, absS, List.length_append, List.length_singleton, nsum]
  congr 2
  · rw [hr]
    refine nsum_congr fun j hj => ?_
    rw [nth_snoc_lt (by omega)]
    simp only [T0Z]; rw [if_pos hi, if_pos hj]
  · rw [nth_snoc_eq]
    simp only [T0Z]; rw [if_pos hi, if_neg (by omega), if_neg (by omega)]
theorem rowW_cost {A : List (List Int)} {B C : List Int} : rowW A.length C.length (T0Z A B C) A.length = allZ C := by
  simp only [rowW, T0Z_cost, allZ, absS]
  congr 1
  rw [Int.natAbs_zero, Nat.add_zero]
  refine nsum_congr fun j hj => ?_
  simp only [T0Z]; rw [if_neg (by omega), if_pos hj]
/-- Where the size is no greater than the limit, it was never cut. -/
theorem szN_uncut {A : List (List Int)} {B C : List Int} (hv : Valid A B C) : ∀ i, i ≤ A.length → min (szN A B C i) 268435457 = min (allZ C * nprod (rowW A.length C.length (T0Z A B C)) i) 268435457
  | 0, _ => by simp [szN, nprod]
  | i + 1, h => by
    have ih := szN_uncut hv i (by omega)
    have h1 := rowW_row hv (i := i) (by omega)
    have h2 := (allZ_le (hv.row (i := i) (by omega)).1 (hv.row (i := i) (by omega)).2).1
    simp only [szN, nprod]
    rw [h1, ih, ← Nat.mul_assoc]
    generalize allZ C * nprod (rowW A.length C.length (T0Z A B C)) i = X
    generalize allZ (nthR A i ++ [nth B i]) = Y at h2
    by_cases c : X ≤ 268435457
    · rw [Nat.min_eq_left c]
    · rw [Nat.min_eq_right (by omega : 268435457 ≤ X)]
      have e1 : 268435457 ≤ 268435457 * Y := Nat.le_mul_of_pos_right _ h2
      have e2 : 268435457 ≤ X * Y := Nat.le_trans (by omega) (Nat.le_mul_of_pos_right X h2)
      rw [Nat.min_eq_right e1, Nat.min_eq_right e2]
theorem size_bound {A : List (List Int)} {B C : List Int} (hv : Valid A B C) (hs : sizeZ A B C ≤ 268435456) : nprod (rowW A.length C.length (T0Z A B C)) (A.length + 1) ≤ 268435456 := by
  have h := szN_uncut hv A.length (Nat.le_refl _)
  simp only [sizeZ] at hs
  rw [nprod, rowW_cost, Nat.mul_comm]
  omega
theorem small_of {A : List (List Int)} {B C : List Int} (hv : Valid A B C) (hs : sizeZ A B C ≤ 268435456) {L : Lay} (hm : L.m = A.length) (hn : L.n = C.length) (s : Tab) (hI : TInv L.m L.n (T0Z A B C) s) : Small L s := by
  have hb := size_bound hv hs
  have hM := L.M_eq
  have hN := L.N_eq
  rw [hm] at hM hN
  rw [hn] at hN
  rw [hm, hn] at hI
  refine ⟨?_, fun i j hi hj => ?_⟩
  · have := hI.denBound
    have := hI.pos
    omega
  · have := hI.bound (fun i k hi hk => T0Z_id i k hi hk) (i := i) (j := j) (by omega) (by omega)
    omega
end Go.Proofs.Ytdbkhecnkhjhpaa
/- The results are right. -/
namespace Go.Proofs.Ytdbkhecnkhjhpaa
open Go Go.Ai
set_option linter.unusedSimpArgs false
set_option linter.unusedVariables false
attribute [local instance] Classical.propDecidable

/-- Numbers in lowest terms are the numbers divided by one positive number. -/
theorem lowL_scale (xs : List Int) : ∃ g : Int, 1 ≤ g ∧ ∀ i, g * nth (lowL xs) i = nth xs i := by
  by_cases h : 1 < gN xs xs.length
  · refine ⟨gN xs xs.length, by omega, fun i => ?_⟩
    rw [lowL_nth, if_pos h]
    by_cases hi : i < xs.length
    · exact Int.mul_tdiv_cancel' (gN_dvd hi)
    · rw [nth_ge (by omega)]; simp
  · exact ⟨1, by omega, fun i => by rw [lowL_nth, if_neg h]; omega⟩
theorem lowL_within {xs : List Int} {M : Int} (h : ∀ i, -M ≤ nth xs i ∧ nth xs i ≤ M) : Within (lowL xs) M := by
  intro i _
  have h1 := lowL_abs xs i
  have h2 := h i
  omega
theorem listF_within {N : Nat} {f : Nat → Int} {M : Int} (hM : 0 ≤ M) (h : ∀ j, j < N → -M ≤ f j ∧ f j ≤ M) (i : Nat) : -M ≤ nth (listF N f) i ∧ nth (listF N f) i ≤ M := by
  by_cases hi : i < N
  · rw [listF_nth hi]; exact h i hi
  · rw [nth_ge (by simp; omega)]; omega
theorem emp_right {A : List (List Int)} {B C : List Int} (hv : Valid A B C) {s : Tab} (hI : TInv A.length C.length (T0Z A B C) s) (hs : ∀ i j, i < A.length + 1 → j < C.length + A.length + 1 → -268435456 ≤ s.t i j ∧ s.t i j ≤ 268435456)
    {r : Nat} (hr : r < A.length) {e : Int} (he : e = 1 ∨ e = -1) (h1 : ∀ j, j < C.length → 0 ≤ e * s.t r j) (h2 : e * s.t r (C.length + A.length) < 0) :
    Right A B C 2 [] 0 (lowL (listF A.length fun k => e * s.t r (C.length + k))) 0 [] := by
  obtain ⟨v1, v2, v3, v4, v5, v6, v7⟩ := hv
  obtain ⟨k1, k2⟩ := hI.isEmpty hr h1 h2
  obtain ⟨g, hg, hg2⟩ := lowL_scale (listF A.length fun k => e * s.t r (C.length + k))
  have hb := listF_within (N := A.length) (f := fun k => e * s.t r (C.length + k)) (M := 268435456) (by omega) fun j hj => by
    have := hs r (C.length + j) (by omega) (by omega)
    rcases he with rfl | rfl <;> omega
  have hw := lowL_within hb
  generalize hY : lowL (listF A.length fun k => e * s.t r (C.length + k)) = Y at hg2 hw
  have hYl : Y.length = A.length := by rw [← hY, lowL_length, listF_length]
  have hdot : ∀ (b : List Int) (j : Nat), (∀ k, k < A.length → nth b k = T0Z A B C k j) → g * dotZ Y b A.length = sumN (fun k => e * s.t r (C.length + k) * T0Z A B C k j) A.length := fun b j hbj => by
    rw [dotZ, ← sumN_mul]
    refine sumN_congr fun k hk => ?_
    rw [← Int.mul_assoc, hg2, listF_nth hk, hbj k hk]
  refine ⟨⟨fun i hi => absurd hi (by simp), fun i hi => by have := hw i hi; omega, fun i hi => absurd hi (by simp), ⟨by omega, by omega⟩, ⟨by omega, by omega⟩⟩, .inr (.inl ⟨rfl, rfl, rfl, rfl, rfl, by rw [hYl, v2], fun j hj => ?_, ?_⟩)⟩
  · have e1 := hdot (colL A j) j fun k hk => by
      rw [nth_colL hk]; simp only [T0Z]; rw [if_pos hk, if_pos hj]
    have e2 := k1 j hj
    rw [← e1] at e2
    refine Classical.byContradiction fun hn => ?_
    have := Int.mul_neg_of_pos_of_neg (show 0 < g by omega) (show dotZ Y (colL A j) A.length < 0 by omega)
    omega
  · have e1 := hdot B (C.length + A.length) fun k hk => by
      simp only [T0Z]; rw [if_pos hk, if_neg (by omega), if_neg (by omega)]
    rw [← e1] at k2
    have e3 : dotZ B Y B.length = dotZ Y B A.length := by
      rw [v2]; exact sumN_congr fun k _ => Int.mul_comm _ _
    rw [e3]
    refine Classical.byContradiction fun hn => ?_
    have := Int.mul_nonneg (show 0 ≤ g by omega) (show 0 ≤ dotZ Y B A.length by omega)
    omega
end Go.Proofs.Ytdbkhecnkhjhpaa
/- The optimal result is right. -/
namespace Go.Proofs.Ytdbkhecnkhjhpaa
open Go Go.Ai
set_option linter.unusedSimpArgs false
set_option linter.unusedVariables false
attribute [local instance] Classical.propDecidable

theorem pos_of_mul {g x : Int} (hg : 1 ≤ g) (h : 0 ≤ g * x) : 0 ≤ x := by
  refine Classical.byContradiction fun hn => ?_
  have := Int.mul_neg_of_pos_of_neg (show 0 < g by omega) (show x < 0 by omega)
  omega
theorem pos1_of_mul {g x : Int} (hg : 1 ≤ g) (h : 0 < g * x) : 1 ≤ x := by
  refine Classical.byContradiction fun hn => ?_
  have h1 := Int.mul_nonneg (show 0 ≤ g by omega) (show 0 ≤ -x by omega)
  rw [Int.mul_neg] at h1
  omega
theorem sol_right {A : List (List Int)} {B C : List Int} (hv : Valid A B C) {z : Nat → Int} {d : Int} (hz : NullZ A.length C.length (T0Z A B C) z d) (hpos : ∀ j, j < C.length → 0 ≤ z j) (hd : 0 < d)
    {X : List Int} {xd g : Int} (hg : 1 ≤ g) (hXl : X.length = C.length) (hX : ∀ i, i < C.length → g * nth X i = z i) (hxd : g * xd = d) : IsSol A B C X xd := by
  have g0 : g ≠ 0 := by omega
  refine ⟨pos1_of_mul hg (by omega), hXl, fun j hj => pos_of_mul hg (by rw [hX j (by omega)]; exact hpos j (by omega)), fun i hi => ?_⟩
  refine cancelZ g0 ?_
  have e1 := hz i hi
  rw [dotZ, ← sumN_mul, ← Int.mul_assoc, hxd]
  have e2 : T0Z A B C i (C.length + A.length) = nth B i := by simp only [T0Z]; rw [if_pos hi, if_neg (by omega), if_neg (by omega)]
  rw [e2] at e1
  rw [← e1]
  refine sumN_congr fun j hj => ?_
  rw [← hX j hj]
  simp only [T0Z]; rw [if_pos hi, if_pos hj]
  generalize nth (nthR A i) j = a
  generalize nth X j = b
  grind
theorem opt_right {A : List (List Int)} {B C : List Int} (hv : Valid A B C) {s : Tab} (hI : TInv A.length C.length (T0Z A B C) s) (hz : ZeroR A.length C.length s) (h1 : ∀ i c, s.bas i = some c → 0 ≤ s.t i (C.length + A.length)) (h2 : ∀ j, j < C.length → 0 ≤ s.t A.length j)
    {X Y : List Int} {xd yd g g' : Int} (hg : 1 ≤ g) (hg' : 1 ≤ g') (hXl : X.length = C.length) (hX : ∀ i, i < C.length → g * nth X i = xB s A.length C.length i) (hxd : g * xd = s.den) (hYl : Y.length = A.length) (hY : ∀ i, i < A.length → g' * nth Y i = - s.t A.length (C.length + i)) (hyd : g' * yd = s.den)
    (hb : Bnd X xd Y yd []) : Right A B C 1 X xd Y yd [] := by
  obtain ⟨k1, k2, k3, k4⟩ := hI.isOptimal T0Z_cost hz h1 h2
  have v2 := hv.2.1
  have hpos := hI.pos
  have g0 : g ≠ 0 := by omega
  have g0' : g' ≠ 0 := by omega
  refine ⟨hb, .inl ⟨rfl, sol_right hv k2 k1 hpos hg hXl hX hxd, pos1_of_mul hg' (by omega), by omega, rfl, fun j hj => ?_, ?_⟩⟩
  · have e1 : g' * dotZ Y (colL A j) A.length = sumN (fun k => - s.t A.length (C.length + k) * T0Z A B C k j) A.length := by
      rw [dotZ, ← sumN_mul]
      refine sumN_congr fun k hk => ?_
      rw [← Int.mul_assoc, hY k hk, nth_colL hk]
      simp only [T0Z]; rw [if_pos hk, if_pos hj]
    have e2 := k3 j hj
    rw [← e1] at e2
    have e3 : T0Z A B C A.length j = nth C j := by simp only [T0Z]; rw [if_neg (by omega), if_pos hj]
    rw [e3, ← hyd] at e2
    have e4 : 0 ≤ g' * (yd * nth C j - dotZ Y (colL A j) A.length) := by
      rw [Int.mul_sub, ← Int.mul_assoc]; omega
    have := pos_of_mul hg' e4
    omega
  · have e1 : g * dotZ C X C.length = sumN (fun j => T0Z A B C A.length j * xB s A.length C.length j) C.length := by
      rw [dotZ, ← sumN_mul]
      refine sumN_congr fun j hj => ?_
      rw [← hX j hj]
      have e3 : T0Z A B C A.length j = nth C j := by simp only [T0Z]; rw [if_neg (by omega), if_pos hj]
      rw [e3]
      generalize nth C j = a
      generalize nth X j = b
      grind
    have e2 : g' * dotZ B Y B.length = sumN (fun k => - s.t A.length (C.length + k) * T0Z A B C k (C.length + A.length)) A.length := by
      rw [dotZ, v2, ← sumN_mul]
      refine sumN_congr fun k hk => ?_
      rw [← hY k hk]
      have e3 : T0Z A B C k (C.length + A.length) = nth B k := by simp only [T0Z]; rw [if_pos hk, if_neg (by omega), if_neg (by omega)]
      rw [e3]
      generalize nth B k = a
      generalize nth Y k = b
      grind
    refine cancelZ g0 (cancelZ g0' ?_)
    rw [k4, ← e2] at e1
    have e5 : g' * (g * (dotZ C X C.length * yd)) = (g * dotZ C X C.length) * (g' * yd) := by grind
    have e6 : g' * (g * (dotZ B Y B.length * xd)) = (g' * dotZ B Y B.length) * (g * xd) := by grind
    rw [e5, e6, e1, hyd, hxd]
end Go.Proofs.Ytdbkhecnkhjhpaa
/- The unbounded result is right. -/
namespace Go.Proofs.Ytdbkhecnkhjhpaa
open Go Go.Ai
set_option linter.unusedSimpArgs false
set_option linter.unusedVariables false
attribute [local instance] Classical.propDecidable

theorem unb_right {A : List (List Int)} {B C : List Int} (hv : Valid A B C) {s : Tab} (hI : TInv A.length C.length (T0Z A B C) s) (hz : ZeroR A.length C.length s) {k : Nat} (hkn : k < C.length) (hk : ∀ i, s.bas i ≠ some k) (h1 : ∀ i c, s.bas i = some c → s.t i k ≤ 0) (h2 : s.t A.length k < 0)
    {X W : List Int} {xd g : Int} (hg : 1 ≤ g) (hWl : W.length = C.length) (hW : ∀ j, j < C.length → g * nth W j = wayB s A.length k j) (hsol : IsSol A B C X xd) (hb : Bnd X xd [] 0 W) : Right A B C 3 X xd [] 0 W := by
  obtain ⟨k1, k2, k3⟩ := hI.isRay T0Z_cost hz hkn hk h1 h2
  have g0 : g ≠ 0 := by omega
  refine ⟨hb, .inr (.inr ⟨rfl, hsol, rfl, rfl, hWl, fun j hj => pos_of_mul hg (by rw [hW j (by omega)]; exact k1 j (by omega)), fun i hi => ?_, ?_⟩)⟩
  · refine cancelZ g0 ?_
    have e1 := k2 i hi
    rw [Int.zero_mul] at e1
    rw [dotZ, ← sumN_mul, Int.mul_zero, ← e1]
    refine sumN_congr fun j hj => ?_
    rw [← hW j hj]
    simp only [T0Z]; rw [if_pos hi, if_pos hj]
    generalize nth (nthR A i) j = a
    generalize nth W j = b
    grind
  · have e1 : g * dotZ C W C.length = sumN (fun j => T0Z A B C A.length j * wayB s A.length k j) C.length := by
      rw [dotZ, ← sumN_mul]
      refine sumN_congr fun j hj => ?_
      rw [← hW j hj]
      have e3 : T0Z A B C A.length j = nth C j := by simp only [T0Z]; rw [if_neg (by omega), if_pos hj]
      rw [e3]
      generalize nth C j = a
      generalize nth W j = b
      grind
    rw [← e1] at k3
    refine Classical.byContradiction fun hn => ?_
    have := Int.mul_nonneg (show 0 ≤ g by omega) (show 0 ≤ dotZ C W C.length by omega)
    omega
/-- A solution does not ask for the costs. -/
theorem sol_cost {A : List (List Int)} {B C C' X : List Int} {xd : Int} (hl : C'.length = C.length) (h : IsSol A B C' X xd) : IsSol A B C X xd := by
  obtain ⟨h1, h2, h3, h4⟩ := h
  exact ⟨h1, by omega, h3, fun i hi => by rw [← hl]; exact h4 i hi⟩
theorem emp_cost {A : List (List Int)} {B C C' X Y R : List Int} {xd yd : Int} (hl : C'.length = C.length) (h : Emp A B C' X xd Y yd R) : Emp A B C X xd Y yd R := by
  obtain ⟨h1, h2, h3, h4, h5, h6, h7⟩ := h
  exact ⟨h1, h2, h3, h4, h5, fun j hj => h6 j (by omega), h7⟩
end Go.Proofs.Ytdbkhecnkhjhpaa
/- What the package's Size returns. -/
namespace Go.Proofs.Ytdbkhecnkhjhpaa
open Go Go.Ai
set_option linter.unusedSimpArgs false
set_option linter.unusedVariables false
attribute [local instance] Classical.propDecidable
variable {E : Env} (hE : LpE E)
include hE
theorem size23 {h : List O} {v : Value} {A : List (List Int)} {B C : List Int} (hp : LpAt h v A B C) :
    DR E 23 [v] ⟨h, h.length⟩ (.ret (.tuple #[.int .i64 (if Valid A B C then (sizeZ A B C : Nat) else 0), .int .i64 (if Valid A B C then 0 else 120)])) ⟨h, h.length⟩ := by
  refine hE.fn (body := rb23) rfl (by decide) ?_
  unfold rb23
  rw [DW_seq, DW_ops]
  refine DL_boxed fun h' p hx hlen hp0 hb => ?_
  simp at hb
  replace hp := hp.ext hx
  have l24 := check24 hE hp
  obtain ⟨vA, vB, vC, rfl, r0, r1, r2, rN, hA, hB, hC⟩ := boxLp (h := h) hb rfl hp
  by_cases hv : Valid A B C
  · have l37 := size37 hE hp hv
    simp [rN, DC_of l24, hv, DC_of l37]
    rw [back_scalar (by simp [Out.scalar, scalar, flat1, flat]) (show h.length ≤ h.length from Nat.le_refl _)]
    exact ⟨rfl, rfl⟩
  · simp [rN, DC_of l24, hv]
    rw [back_scalar (by simp [Out.scalar, scalar, flat1, flat]) (show h.length ≤ h.length from Nat.le_refl _)]
    exact ⟨rfl, rfl⟩
omit hE in
/-- Nothing is wrong: the tableau is that of an optimal solution. -/
theorem done_ok {L : Lay} {T0 : Nat → Nat → Int} {s : Tab} (hI : TInv L.m L.n T0 s) (hw : ∀ c, c < L.n → ¬ WrongZ L s c) : (∀ i c, s.bas i = some c → 0 ≤ s.t i (L.n + L.m)) ∧ ∀ j, j < L.n → 0 ≤ s.t L.m j :=
  ⟨fun i c hb => (okC_of hI (hw c (hI.basic i c hb).1)).1 i hb, fun j hj => (okC_of hI (hw j hj)).c hI⟩
end Go.Proofs.Ytdbkhecnkhjhpaa
