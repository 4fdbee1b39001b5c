/- Texts that were built one by one: Lv1, Lv2, Lv3, Lv4, Lv5, Lw1, Lw2, Lw3, Lw4, Lw5, Lw6, Lw7, Lw8. -/
import Derived.Test.YtdbkhecnkhjhpaaBi
import Derived.Test.YtdbkhecnkhjhpaaBe
/- Growing slices and rows, with the rest of memory as it was. -/
namespace Go.Proofs.Ytdbkhecnkhjhpaa
open Go Go.Ai
set_option linter.unusedSimpArgs false
set_option linter.unusedVariables false
attribute [local instance] Classical.propDecidable
variable {E : Env} (hE : LpE E)

/-- A slice that has a block of its own, at a place that is known. -/
def OwnB (H : List O) (v : Value) (k : Nat) (cs : List Value) (el : TypeId) (b : Nat) : Prop :=
  (k = 0 ∧ cs = [] ∧ v = .slice none 0 0) ∨ (0 < k ∧ v = .slice (some ⟨b, 0, none⟩) k k ∧ H[b]? = some (.cells cs el (some 1)) ∧ cs.length = k)
theorem append_cells {H : List O} {v : Value} {k : Nat} {cs : List Value} {el : TypeId} {b bytes fl n : Nat} {new : List Value} (ho : OwnB H v k cs el b) (hone : new.all one1 = true) (hnew : new.length = n) (hn : 0 < n) (hroom : (k + n) * bytes ≤ roomMax) (hfl : fl ≤ b) :
    ∃ base H', v = .slice base k k ∧ appendCells el 1 bytes base k k n new ⟨H, fl⟩ = some (.slice (some ⟨H.length, 0, none⟩) (k + n) (k + n), ⟨H', fl⟩) ∧ H'[H.length]? = some (.cells (cs ++ new) el (some 1)) ∧ H'.length = H.length + 1 ∧ ∀ c, c < H.length → (0 < k → c ≠ b) → H'[c]? = H[c]? := by
  rcases ho with ⟨rfl, rfl, rfl⟩ | ⟨hk0, rfl, hb, hk⟩
  · refine ⟨none, H ++ [.cells new el (some 1)], rfl, ?_, by simp, by simp, fun c hc _ => by rw [List.getElem?_append_left hc]⟩
    simp only [appendCells]
    rw [if_neg (by omega), if_neg (by omega), if_pos ⟨hroom, hone⟩]
    simp [readSlice, kill]
  · have hlt := (List.getElem?_eq_some_iff.1 hb).1
    have hread : readSlice H 1 k (some ⟨b, 0, none⟩) = some cs := by
      simp only [readSlice]
      split
      · rename_i h0
        have : cs = [] := List.length_eq_zero_iff.1 (by omega)
        rw [this]
      · simp [rdN, hb, hk]
        exact List.take_of_length_le (by omega)
    refine ⟨some ⟨b, 0, none⟩, H.set b .dead ++ [.cells (cs ++ new) el (some 1)], rfl, ?_, ?_, by simp, fun c hc hcb => ?_⟩
    · simp only [appendCells]
      rw [if_neg (by omega), if_neg (by omega), if_pos ⟨hroom, hone⟩, hread]
      simp only [kill, hb, Option.bind_some, bind]
      rw [if_pos ⟨.inr trivial, trivial⟩]
      simp only [Option.bind_some, List.length_set]
      rw [show min fl b = fl by omega]
    · have : (H.set b .dead).length = H.length := by simp
      rw [← this, get_last]
    · rw [List.getElem?_append_left (by simpa using hc)]
      rw [List.getElem?_set_ne (fun e => hcb hk0 e.symm)]
/-- One more. -/
theorem append_one {H : List O} {v x : Value} {k c bx : Nat} {cs : List Value} {el : TypeId} {b bytes fl : Nat} (ho : OwnB H v k cs el b) (hx : rd H bx 0 = some x) (hone : one1 x = true) (hroom : (k + 1) * bytes ≤ roomMax) (hfl : fl ≤ b) :
    ∃ H', appendV el 1 bytes v (.slice (some ⟨bx, 0, none⟩) 1 c) ⟨H, fl⟩ = some (.slice (some ⟨H.length, 0, none⟩) (k + 1) (k + 1), ⟨H', fl⟩) ∧ H'[H.length]? = some (.cells (cs ++ [x]) el (some 1)) ∧ H'.length = H.length + 1 ∧ ∀ c, c < H.length → (0 < k → c ≠ b) → H'[c]? = H[c]? := by
  obtain ⟨base, H', rfl, h1, h2, h3, h4⟩ := append_cells (n := 1) (new := [x]) (bytes := bytes) (fl := fl) ho (by simp [hone]) rfl (by omega) hroom hfl
  refine ⟨H', ?_, h2, h3, h4⟩
  have hread : readSlice H 1 1 (some ⟨bx, 0, none⟩) = some [x] := by
    simp only [rd] at hx
    cases hb : H[bx]? with
    | none => simp [hb] at hx
    | some o =>
      cases o with
      | cells l e w =>
        simp only [hb] at hx
        simp only [readSlice, rdN, hb]
        cases l with
        | nil => simp at hx
        | cons y l => simp at hx; subst hx; simp
      | _ => simp [hb] at hx
  simp only [appendV, hread, bind, Option.bind_some]
  exact h1
theorem append_zeros {H : List O} {v : Value} {k : Nat} {n : Nat} {xs : List Int} {b fl : Nat} {x : Int} (hxn : x = n) (ho : OwnB H v k (xs.map (.int .i64)) 3 b) (hroom : (k + n) * 8 ≤ roomMax) (hn : 0 < n) (hfl : fl ≤ b) :
    ∃ H', appendZV 3 1 8 [.int .i64 0] v (.int .i64 x) ⟨H, fl⟩ = some (.slice (some ⟨H.length, 0, none⟩) (k + n) (k + n), ⟨H', fl⟩) ∧ H'[H.length]? = some (.cells ((xs ++ List.replicate n 0).map (.int .i64)) 3 (some 1)) ∧ H'.length = H.length + 1 ∧ ∀ c, c < H.length → (0 < k → c ≠ b) → H'[c]? = H[c]? := by
  subst hxn
  have hrep : rep n [Value.int .i64 0] = (List.replicate n 0).map (.int .i64) := by
    clear hroom hn
    induction n with
    | zero => rfl
    | succ n ih => simp [rep, ih, List.replicate_succ]
  obtain ⟨base, H', rfl, h1, h2, h3, h4⟩ := append_cells (n := n) (new := rep n [Value.int .i64 0]) (bytes := 8) (fl := fl) ho (by rw [hrep]; simp [one1]) (by rw [hrep]; simp) hn hroom hfl
  refine ⟨H', ?_, ?_, h3, h4⟩
  · simp only [appendZV]
    rw [if_pos ⟨by omega, by simp only [roomMax] at hroom; omega⟩]
    exact h1
  · rw [h2, hrep, ← List.map_append]
theorem wr_row {H : List O} {b N j : Nat} {f : Nat → Int} {el : TypeId} {x : Int} (hb : H[b]? = some (.cells (cellsF N f) el (some 1))) (hj : j < N) :
    ∃ H', wrN H b j [.int .i64 x] = some H' ∧ H'[b]? = some (.cells (cellsF N fun k => if k = j then x else f k) el (some 1)) ∧ H'.length = H.length ∧ ∀ c, c ≠ b → H'[c]? = H[c]? := by
  have hlt := (List.getElem?_eq_some_iff.1 hb).1
  refine ⟨H.set b (.cells (cellsF N fun k => if k = j then x else f k) el (some 1)), ?_, by simp [hlt], by simp, fun c hc => by rw [List.getElem?_set_ne (fun e => hc e.symm)]⟩
  simp only [wrN, hb]
  rw [if_pos ⟨by simp; omega, by simp [one1]⟩, cellsF_setL hj]
theorem wr_cell {H : List O} {b j : Nat} {cs : List Value} {el : TypeId} {s : Option Nat} {x : Value} (hb : H[b]? = some (.cells cs el s)) (hs : s.isSome = true) (hj : j < cs.length) (hx : one1 x = true) :
    ∃ H', wrN H b j [x] = some H' ∧ H'[b]? = some (.cells (setL cs j [x]) el s) ∧ H'.length = H.length ∧ ∀ c, c ≠ b → H'[c]? = H[c]? := by
  have hlt := (List.getElem?_eq_some_iff.1 hb).1
  obtain ⟨s, rfl⟩ := Option.isSome_iff_exists.1 hs
  refine ⟨H.set b (.cells (setL cs j [x]) el (some s)), ?_, by simp [hlt], by simp, fun c hc => by rw [List.getElem?_set_ne (fun e => hc e.symm)]⟩
  simp only [wrN, hb]
  rw [if_pos ⟨by simp; omega, by simp [hx]⟩]
end Go.Proofs.Ytdbkhecnkhjhpaa
/- The first tableau. -/
namespace Go.Proofs.Ytdbkhecnkhjhpaa
open Go Go.Ai
set_option linter.unusedSimpArgs false
set_option linter.unusedVariables false
attribute [local instance] Classical.propDecidable
variable {E : Env} (hE : LpE E)

/-- A tableau of which i rows are there. -/
structure Bld (h1 : List O) (q qm : Nat) (vA vB vC : Value) (N : Nat) (T0 : Nat → Nat → Int) (i : Nat) (rows bas : Value) (rb : Nat → Nat) (br bb : Nat) (H : List O) : Prop where
  keep : Keep h1 H
  lq : h1.length ≤ q
  lm : h1.length ≤ qm
  str : H[q]? = some (.cells [vA, vB, vC, rows, .int .i64 1, bas, .map (some qm)] 88 (some 0))
  map : H[qm]? = some (.map [] 0)
  rows : OwnB H rows i ((List.range i).map fun a => .slice (some ⟨rb a, 0, none⟩) N N) 23 br
  bas : OwnB H bas i (List.replicate i (.int .i64 (-1))) 3 bb
  row : ∀ a, a < i → h1.length ≤ rb a ∧ H[rb a]? = some (.cells (cellsF N (T0 a)) 3 (some 1))
  inj : ∀ a b, a < i → b < i → rb a = rb b → a = b
  lr : h1.length ≤ br
  lb : h1.length ≤ bb

theorem Keep.mk' {h1 H H' : List O} {lo : Nat} (k : Keep h1 H) (hl : H.length ≤ H'.length) (hlo : h1.length ≤ lo) (h : ∀ c, c < lo → H'[c]? = H[c]?) : Keep h1 H' :=
  ⟨Nat.le_trans k.1 hl, fun b hb => by rw [h b (by omega)]; exact k.2 b hb⟩

/-- The next row. -/
theorem Bld.next {h1 H H' : List O} {q qm : Nat} {vA vB vC : Value} {N : Nat} {T0 : Nat → Nat → Int} {i : Nat} {rows bas : Value} {rb : Nat → Nat} {br bb r br' bb' : Nat} (B : Bld h1 q qm vA vB vC N T0 i rows bas rb br bb H)
    (hl : H.length ≤ H'.length) (hold : ∀ c, c < H.length → c ≠ q → (0 < i → c ≠ br ∧ c ≠ bb) → H'[c]? = H[c]?)
    (hr : H.length ≤ r) (hrow : H'[r]? = some (.cells (cellsF N (T0 i)) 3 (some 1)))
    (hbr : H.length ≤ br') (hrows : H'[br']? = some (.cells (((List.range i).map fun a => .slice (some ⟨rb a, 0, none⟩) N N) ++ [.slice (some ⟨r, 0, none⟩) N N]) 23 (some 1)))
    (hbb : H.length ≤ bb') (hbas : H'[bb']? = some (.cells (List.replicate i (.int .i64 (-1)) ++ [.int .i64 (-1)]) 3 (some 1)))
    (hstr : H'[q]? = some (.cells [vA, vB, vC, .slice (some ⟨br', 0, none⟩) (i + 1) (i + 1), .int .i64 1, .slice (some ⟨bb', 0, none⟩) (i + 1) (i + 1), .map (some qm)] 88 (some 0))) (hiN : i < N) :
    Bld h1 q qm vA vB vC N T0 (i + 1) (.slice (some ⟨br', 0, none⟩) (i + 1) (i + 1)) (.slice (some ⟨bb', 0, none⟩) (i + 1) (i + 1)) (fun a => if a = i then r else rb a) br' bb' H' := by
  have k1 := B.keep.1
  have hq := B.lq
  have hqm := B.lm
  have hne : ∀ {c : Nat} {x : O}, H[c]? = some x → (∀ vs own, x ≠ .cells vs 88 own) → (∀ vs own, x ≠ .cells vs 23 own) → (∀ l own, x = .cells l 3 own → l.length ≠ i) → H'[c]? = some x := by
    intro c x hc n88 n23 n3
    rw [← hc]
    refine hold c (List.getElem?_eq_some_iff.1 hc).1 (fun e => ?_) (fun hi => ⟨fun e => ?_, fun e => ?_⟩)
    · subst e; rw [B.str] at hc; cases hc; exact n88 _ _ rfl
    · subst e
      rcases B.rows with ⟨h, _⟩ | ⟨_, _, h, _⟩
      · omega
      · rw [h] at hc; cases hc; exact n23 _ _ rfl
    · subst e
      rcases B.bas with ⟨h, _⟩ | ⟨_, _, h, hl⟩
      · omega
      · rw [h] at hc; cases hc; exact n3 _ _ rfl hl
  refine ⟨⟨by omega, fun c hc => ?_⟩, hq, hqm, hstr, ?_, ?_, ?_, fun a ha => ?_, fun a b ha hb e => ?_, by omega, by omega⟩
  · rw [hold c (by omega) (by omega) (fun _ => ⟨by have := B.lr; omega, by have := B.lb; omega⟩)]; exact B.keep.2 c hc
  · refine hne B.map (fun _ _ h => by cases h) (fun _ _ h => by cases h) (fun _ _ h => by cases h)
  · refine .inr ⟨by omega, rfl, ?_, by simp⟩
    rw [hrows, List.range_succ, List.map_append]
    congr 3
    · apply List.map_congr_left
      intro a ha
      have := List.mem_range.1 ha
      rw [if_neg (by omega)]
    · simp
  · refine .inr ⟨by omega, rfl, ?_, by simp⟩
    rw [hbas, List.replicate_succ']
  · by_cases e : a = i
    · subst e; rw [if_pos rfl]; exact ⟨by omega, hrow⟩
    · obtain ⟨r1, r2⟩ := B.row a (by omega)
      simp only [if_neg e]
      exact ⟨r1, hne r2 (fun _ _ h => by cases h) (fun _ _ h => by cases h) (fun l own h => by cases h; simp; omega)⟩
  · have hlt : ∀ a, a < i → rb a < H.length := fun a ha => (List.getElem?_eq_some_iff.1 (B.row a ha).2).1
    by_cases e1 : a = i
    · by_cases e2 : b = i
      · omega
      · simp only [if_pos e1, if_neg e2] at e
        have := hlt b (by omega); omega
    · by_cases e2 : b = i
      · simp only [if_pos e2, if_neg e1] at e
        have := hlt a (by omega); omega
      · simp only [if_neg e1, if_neg e2] at e
        exact B.inj a b (by omega) (by omega) e
end Go.Proofs.Ytdbkhecnkhjhpaa
/- The first tableau: its loop. -/
namespace Go.Proofs.Ytdbkhecnkhjhpaa
open Go Go.Ai
set_option linter.unusedSimpArgs false
set_option linter.unusedVariables false
attribute [local instance] Classical.propDecidable
variable {E : Env} (hE : LpE E)

theorem cells_of_list (l : List Int) : l.map (Value.int .i64) = cellsF l.length (nth l) := by
  unfold cellsF
  apply List.ext_getElem?
  intro j
  by_cases hj : j < l.length
  · simp [hj, nth]
  · simp [List.getElem?_eq_none (Nat.le_of_not_lt hj), hj]
theorem nth_zeros {xs : List Int} {k j : Nat} : nth (xs ++ List.replicate k 0) j = if j < xs.length then nth xs j else 0 := by
  by_cases h : j < xs.length
  · rw [if_pos h]; simp [nth, List.getElem?_append_left h]
  · rw [if_neg h]
    simp only [nth, List.getD, List.getElem?_append_right (Nat.le_of_not_lt h), List.getElem?_replicate]
    split <;> rfl

def tbB : R := match rb57 with | .seq _ (.seq _ (.seq _ (.seq (.seq _ (.block 0 (.loop (.seq _ (.seq _ (.seq (.block 1 b) _)))))) _))) => b | _ => .skip

include hE
theorem tbRow {h1 H : List O} {fl p q qm cA cB cC bA oA bB oB m n i br bb : Nat} {aC : Option Addr} {vs : Nat → Value} {A : List (List Int)} {B C : List Int} {rows bas : Value} {rb : Nat → Nat} {fr : Fr} {Q : Post}
    (hv : Valid A B C) (hm : m = A.length) (hn : n = C.length) (hfl : fl ≤ h1.length)
    (r0 : rd h1 p 0 = some (.slice (some ⟨bA, oA, none⟩) m cA)) (r1 : rd h1 p 1 = some (.slice (some ⟨bB, oB, none⟩) m cB)) (hi : i < m)
    (hA : rd h1 bA (oA + i) = some (vs i) ∧ Ints h1 (vs i) (nthR A i)) (hB : rd h1 bB (oB + i) = some (.int .i64 (nth B i)))
    (K : Bld h1 q qm (.slice (some ⟨bA, oA, none⟩) m cA) (.slice (some ⟨bB, oB, none⟩) m cB) (.slice aC n cC) (n + m + 1) (T0Z A B C) i rows bas rb br bb H)
    (g1 : get fr 1 = .pointer (some ⟨p, 0, none⟩)) (g3 : get fr 3 = .pointer (some ⟨q, 0, none⟩)) (g4 : get fr 4 = .int .i64 m) (g15 : get fr 15 = .int .i64 m) (g16 : get fr 16 = .int .i64 i)
    (hQ : ∀ fr' H' rows' bas' rb' br' bb', Bld h1 q qm (.slice (some ⟨bA, oA, none⟩) m cA) (.slice (some ⟨bB, oB, none⟩) m cB) (.slice aC n cC) (n + m + 1) (T0Z A B C) (i + 1) rows' bas' rb' br' bb' H' →
      get fr' 1 = get fr 1 → get fr' 3 = get fr 3 → get fr' 4 = get fr 4 → get fr' 15 = get fr 15 → get fr' 16 = get fr 16 → Q .normal fr' ⟨H', fl⟩) : DW E tbB fr ⟨H, fl⟩ Q := by
  obtain ⟨v1, v2, v3, v4, v5, v6, v7⟩ := hv
  obtain ⟨hA1, hA2⟩ := hA
  have hk1 := K.keep.1
  have hq1 := K.lq
  have hqlt := (List.getElem?_eq_some_iff.1 K.str).1
  have hI := K.keep.ints hA2
  have hr := K.keep.rd hA1
  have r0H := K.keep.rd r0
  have hrow : (nthR A i).length = n := by rw [hn]; exact (v7 i (by omega)).1
  have lcl := clone56 hE hI (by omega) (by omega)
  obtain ⟨Hc, eHc, hcg, hcl, hco⟩ : ∃ Hc, Hc = H ++ [O.cells ((nthR A i).map (Value.int .i64)) 3 (some 1)] ∧ Hc[H.length]? = some (O.cells ((nthR A i).map (Value.int .i64)) 3 (some 1)) ∧ Hc.length = H.length + 1 ∧ ∀ c, c < H.length → Hc[c]? = H[c]? :=
    ⟨_, rfl, by simp, by simp, fun c hc => by rw [List.getElem?_append_left hc]⟩
  rw [← eHc, hrow] at lcl
  have em : IntKind.i64.wrap ((m : Int) + 1) = ((m + 1 : Nat) : Int) := by rw [w64_id] <;> omega
  obtain ⟨H2, eZ, z1, z2, z3⟩ := append_zeros (H := Hc) (x := (m : Int) + 1) (v := .slice (some ⟨H.length, 0, none⟩) n n) (k := n) (n := m + 1) (xs := nthR A i) (b := H.length) (fl := fl) (by omega) (.inr ⟨by omega, rfl, hcg, by simp [hrow]⟩) (by simp [roomMax]; omega) (by omega) (by omega)
  rw [hcl, show n + (m + 1) = n + m + 1 from rfl] at eZ
  rw [hcl] at z1 z2 z3
  have hzl : (nthR A i ++ List.replicate (m + 1) 0).length = n + m + 1 := by simp [hrow]; omega
  rw [cells_of_list, hzl] at z1
  have e1 : IntKind.i64.wrap ((n : Int) + i) = ((n + i : Nat) : Int) := by rw [w64_id] <;> omega
  obtain ⟨H3, w3, s1, s2, s3⟩ := wr_row (x := 1) (j := n + i) z1 (by omega)
  obtain ⟨H4, w4, t1, t2, t3⟩ := wr_row (x := nth B i) (j := n + m) s1 (by omega)
  have o2 : ∀ c, c < H.length → H2[c]? = H[c]? := fun c hc => by rw [z3 c (by omega) (fun _ => by omega), hco c hc]
  have o3 : ∀ c, c < H.length → H3[c]? = H[c]? := fun c hc => by rw [s3 c (by omega), o2 c hc]
  have o4 : ∀ c, c < H.length → H4[c]? = H[c]? := fun c hc => by rw [t3 c (by omega), o3 c hc]
  have K2 : Keep h1 H2 := K.keep.mk' (by omega) hk1 o2
  have K3 : Keep h1 H3 := K.keep.mk' (by omega) hk1 o3
  have l62 : ∀ h, DR E 62 [.agg #[.slice (some ⟨bA, oA, none⟩) m cA, .slice (some ⟨bB, oB, none⟩) m cB, .slice aC n cC]] ⟨h, h.length⟩ (.ret (.int .i64 n)) ⟨h, h.length⟩ := fun h => cols62 hE
  have str2 := (o2 q hqlt).trans K.str
  have str3 := (o3 q hqlt).trans K.str
  have str4 := (o4 q hqlt).trans K.str
  have n2 : rdN H2 q 0 3 = some [.slice (some ⟨bA, oA, none⟩) m cA, .slice (some ⟨bB, oB, none⟩) m cB, .slice aC n cC] := by simp [rdN, str2]
  have n3 : rdN H3 q 0 3 = some [.slice (some ⟨bA, oA, none⟩) m cA, .slice (some ⟨bB, oB, none⟩) m cB, .slice aC n cC] := by simp [rdN, str3]
  have r13 := K3.rd r1
  have hB3 := K3.rd hB
  have rr4 : rd H4 q 3 = some rows := by simp [rd, str4]
  have hBl : i < B.length := by omega
  -- the row into the rows
  obtain ⟨H5, e5, u1, u2, u3⟩ := append_one (H := H4 ++ [.cells [.slice (some ⟨H.length + 1, 0, none⟩) (n + m + 1) (n + m + 1)] 23 (some 0)]) (bx := H4.length) (x := .slice (some ⟨H.length + 1, 0, none⟩) (n + m + 1) (n + m + 1)) (bytes := 24) (fl := fl) (c := 1)
    (v := rows) (k := i) (el := 23) (b := br) (by
      rcases K.rows with h | ⟨h1, h2, h3, h4⟩
      · exact .inl h
      · have hbl := (List.getElem?_eq_some_iff.1 h3).1
        refine .inr ⟨h1, h2, ?_, h4⟩
        rw [List.getElem?_append_left (by omega), o4 br hbl]; exact h3) (by simp [rd]) rfl (by simp [roomMax]; omega) (by have := K.lr; omega)
  have hl4 : (H4 ++ [O.cells [Value.slice (some ⟨H.length + 1, 0, none⟩) (n + m + 1) (n + m + 1)] 23 (some 0)]).length = H.length + 3 := by simp; omega
  rw [hl4] at e5 u1 u2 u3
  have o5 : ∀ c, c < H.length + 2 → (0 < i → c ≠ br) → H5[c]? = H4[c]? := fun c hc hcb => by
    rw [u3 c (by omega) hcb, List.getElem?_append_left (by omega)]
  have qbr : 0 < i → q ≠ br := fun hi0 e => by
    rcases K.rows with h | ⟨_, _, h3, _⟩
    · omega
    · rw [← e, K.str] at h3; simp at h3
  have qbb : 0 < i → q ≠ bb := fun hi0 e => by
    rcases K.bas with h | ⟨_, _, h3, _⟩
    · omega
    · rw [← e, K.str] at h3; simp at h3
  have bbr : 0 < i → bb ≠ br := fun hi0 e => by
    rcases K.rows with h | ⟨_, _, h3, _⟩
    · omega
    · rcases K.bas with h | ⟨_, _, k3, _⟩
      · omega
      · rw [e, h3] at k3; simp at k3
  have str5 := (o5 q (by omega) qbr).trans str4
  obtain ⟨H6, w6, x1, x2, x3⟩ := wr_cell (j := 3) (x := .slice (some ⟨H.length + 3, 0, none⟩) (i + 1) (i + 1)) str5 rfl (by simp) rfl
  simp only [setL, List.set] at x1
  have rr6 : rd H6 q 5 = some bas := by simp [rd, x1]
  have hl6 : H6.length = H.length + 4 := by omega
  obtain ⟨H7, e7, y1, y2, y3⟩ := append_one (H := H6 ++ [.cells [.int .i64 (-1)] 3 (some 0)]) (bx := H6.length) (x := .int .i64 (-1)) (bytes := 8) (fl := fl) (c := 1)
    (v := bas) (k := i) (el := 3) (b := bb) (by
      rcases K.bas with h | ⟨h1, h2, h3, h4⟩
      · exact .inl h
      · have hbl := (List.getElem?_eq_some_iff.1 h3).1
        refine .inr ⟨h1, h2, ?_, h4⟩
        rw [List.getElem?_append_left (by omega), x3 bb (fun e => qbb h1 e.symm), o5 bb (by omega) bbr, o4 bb hbl]; exact h3) (by simp [rd]) rfl (by simp [roomMax]; omega) (by have := K.lb; omega)
  have hl7 : (H6 ++ [O.cells [Value.int .i64 (-1)] 3 (some 0)]).length = H.length + 5 := by simp; omega
  rw [hl7] at e7 y1 y2 y3
  have o7 : ∀ c, c < H.length + 4 → (0 < i → c ≠ bb) → H7[c]? = H6[c]? := fun c hc hcb => by
    rw [y3 c (by omega) hcb, List.getElem?_append_left (by omega)]
  have str7 := (o7 q (by omega) qbb).trans x1
  obtain ⟨H8, w8, q1, q2, q3⟩ := wr_cell (j := 5) (x := .slice (some ⟨H.length + 5, 0, none⟩) (i + 1) (i + 1)) str7 rfl (by simp) rfl
  simp only [setL, List.set] at q1
  have c1 : 0 ≤ (n : Int) + i ∧ (n : Int) + i < (n : Int) + m + 1 := by omega
  have c2 : ((n : Int) + i).toNat = n + i := by omega
  have c3 : 0 ≤ (n : Int) + m ∧ (n : Int) + m < (n : Int) + m + 1 := by omega
  have c4 : ((n : Int) + m).toNat = n + m := by omega
  have e2 : IntKind.i64.wrap ((n : Int) + m) = ((n + m : Nat) : Int) := by rw [w64_id] <;> omega
  have tb1 : Nat.testBit 16383 12 = true := rfl
  have tb2 : Nat.testBit 16383 9 = true := rfl
  have tb3 : Nat.testBit 16383 5 = true := rfl
  have tb4 : Nat.testBit 16383 4 = true := rfl
  have mf : min fl (H.length + 1) = fl := by omega
  have mq : min fl q = fl := by omega
  unfold tbB rb57
  simp [g1, g3, g4, g15, g16, r0H, hi, hr, DC_of lcl, em, eZ, n2, DC_of (l62 _), e1, w3, n3, r13, hB3, hBl, rr4, w4, eq_true c1, c2, eq_true c3, c4, e2, tb1, tb2, tb3, tb4, mf, e5, mq, w6, rr6, e7, w8]
  have hbrl : 0 < i → br < H.length := fun hi0 => by
    rcases K.rows with h | ⟨_, _, h3, _⟩
    · omega
    · exact (List.getElem?_eq_some_iff.1 h3).1
  have hbbl : 0 < i → bb < H.length := fun hi0 => by
    rcases K.bas with h | ⟨_, _, h3, _⟩
    · omega
    · exact (List.getElem?_eq_some_iff.1 h3).1
  refine hQ _ H8 _ _ _ _ _ (K.next (r := H.length + 1) (br' := H.length + 3) (bb' := H.length + 5) (by omega) (fun c hc hcq hcb => ?_) (by omega) ?_ (by omega) ?_ (by omega) ?_ q1 (by omega)) (by simp) (by simp) (by simp) (by simp) (by simp)
  · rw [q3 c hcq, o7 c (by omega) (fun h => (hcb h).2), x3 c hcq, o5 c (by omega) (fun h => (hcb h).1), o4 c hc]
  · rw [q3 _ (by omega), o7 _ (by omega) (fun h => by have := hbbl h; omega), x3 _ (by omega), o5 _ (by omega) (fun h => by have := hbrl h; omega), t1]
    refine congrArg (fun l => some (O.cells l 3 (some 1))) (cellsF_congr fun j hj => ?_)
    simp only [T0Z]
    rw [if_pos (show i < A.length by omega), nth_zeros, hrow]
    by_cases d1 : j < C.length
    · rw [if_pos d1, if_neg (by omega), if_neg (by omega), if_pos (by omega)]
    · rw [if_neg d1]
      by_cases d2 : j < C.length + A.length
      · rw [if_pos d2, if_neg (by omega)]
        by_cases d3 : j = C.length + i
        · rw [if_pos d3, if_pos (by omega)]
        · rw [if_neg d3, if_neg (by omega), if_neg (by omega)]
      · rw [if_neg d2, if_pos (by omega)]
  · rw [q3 _ (by omega), o7 _ (by omega) (fun h => by have := hbbl h; omega), x3 _ (by omega), u1]
  · rw [q3 _ (by omega), y1]
end Go.Proofs.Ytdbkhecnkhjhpaa
/- What tableauOf returns. -/
namespace Go.Proofs.Ytdbkhecnkhjhpaa
open Go Go.Ai
set_option linter.unusedSimpArgs false
set_option linter.unusedVariables false
attribute [local instance] Classical.propDecidable
variable {E : Env} (hE : LpE E)

def tbS : R := match rb57 with | .seq _ (.seq b _) => b | _ => .skip
def tbM : R := match rb57 with | .seq _ (.seq _ (.seq c _)) => c | _ => .skip
def tbI : R := match rb57 with | .seq _ (.seq _ (.seq _ (.seq (.seq d _) _))) => d | _ => .skip
def tbT : R := match rb57 with | .seq _ (.seq _ (.seq _ (.seq (.seq _ (.block 0 (.loop (.seq t _)))) _))) => t | _ => .skip
def tbC : R := match rb57 with | .seq _ (.seq _ (.seq _ (.seq (.seq _ (.block 0 (.loop (.seq _ (.seq c _))))) _))) => c | _ => .skip
def tbN : R := match rb57 with | .seq _ (.seq _ (.seq _ (.seq (.seq _ (.block 0 (.loop (.seq _ (.seq _ (.seq _ n)))))) _))) => n | _ => .skip
def tbE : R := match rb57 with | .seq _ (.seq _ (.seq _ (.seq _ e))) => e | _ => .skip
theorem rb57_eq : rb57 = .seq (.ops false [⟨some 1, none, .box 25 (.tmp 0), 0⟩, ⟨some 2, none, .mv (.const (.pointer none)), 0⟩]) (.seq tbS (.seq tbM (.seq (.seq tbI (.block 0 (.loop (.seq tbT (.seq tbC (.seq (.block 1 tbB) tbN)))))) tbE))) := rfl

include hE
/-- The last row, and what is returned. -/
theorem tbEnd {h0 h1 H : List O} {p q qm cC m n br bb : Nat} {vA vB : Value} {aC : Option Addr} {A : List (List Int)} {B C : List Int} {rows bas : Value} {rb : Nat → Nat} {fr : Fr} {Q : Out → St → Prop} {st0 : St}
    (hv : Valid A B C) (hm : m = A.length) (hn : n = C.length) (k01 : Keep h0 h1)
    (r2 : rd h1 p 2 = some (.slice aC n cC)) (hC : Ints h1 (.slice aC n cC) C)
    (K : Bld h1 q qm vA vB (.slice aC n cC) (n + m + 1) (T0Z A B C) m rows bas rb br bb H)
    (g1 : get fr 1 = .pointer (some ⟨p, 0, none⟩)) (g3 : get fr 3 = .pointer (some ⟨q, 0, none⟩)) (g4 : get fr 4 = .int .i64 m) (hst : st0 = ⟨h0, h0.length⟩)
    (hQ : ∀ L : Lay, ∀ H' : List O, L.p = q → L.Ok h0 → TabAt h0 L (tab0 (T0Z A B C)) [] 0 H' → L.m = m → L.n = n → L.vC = .slice aC n cC → L.F = (fun _ => none) → L.vA = vA → L.vB = vB → Q (.ret (.pointer (some ⟨q, 0, none⟩))) ⟨H', h0.length⟩) :
    DW E tbE fr ⟨H, h0.length⟩ (endK [.tmp 2] st0 Q) := by
  obtain ⟨v1, v2, v3, v4, v5, v6, v7⟩ := hv
  subst hst
  have hk0 := k01.1
  have hk1 := K.keep.1
  have hq1 := K.lq
  have hm1 := K.lm
  have hqlt := (List.getElem?_eq_some_iff.1 K.str).1
  have hI := K.keep.ints hC
  have r2H := K.keep.rd r2
  have rrH : rd H q 3 = some rows := by simp [rd, K.str]
  have lcl := clone56 hE hI (by omega) (by omega)
  obtain ⟨Hc, eHc, hcg, hcl, hco⟩ : ∃ Hc, Hc = H ++ [O.cells (C.map (Value.int .i64)) 3 (some 1)] ∧ Hc[H.length]? = some (O.cells (C.map (Value.int .i64)) 3 (some 1)) ∧ Hc.length = H.length + 1 ∧ ∀ c, c < H.length → Hc[c]? = H[c]? :=
    ⟨_, rfl, by simp, by simp, fun c hc => by rw [List.getElem?_append_left hc]⟩
  rw [← eHc, ← hn] at lcl
  have em : IntKind.i64.wrap ((m : Int) + 1) = ((m + 1 : Nat) : Int) := by rw [w64_id] <;> omega
  obtain ⟨H2, eZ, z1, z2, z3⟩ := append_zeros (H := Hc) (x := (m : Int) + 1) (v := .slice (some ⟨H.length, 0, none⟩) n n) (k := n) (n := m + 1) (xs := C) (b := H.length) (fl := h0.length) (by omega) (.inr ⟨by omega, rfl, hcg, by simp; omega⟩) (by simp [roomMax]; omega) (by omega) (by omega)
  rw [hcl, show n + (m + 1) = n + m + 1 from rfl] at eZ
  rw [hcl] at z1 z2 z3
  have hzl : (C ++ List.replicate (m + 1) 0).length = n + m + 1 := by simp; omega
  rw [cells_of_list, hzl] at z1
  have o2 : ∀ c, c < H.length → H2[c]? = H[c]? := fun c hc => by rw [z3 c (by omega) (fun _ => by omega), hco c hc]
  obtain ⟨H5, e5, u1, u2, u3⟩ := append_one (H := H2 ++ [.cells [.slice (some ⟨H.length + 1, 0, none⟩) (n + m + 1) (n + m + 1)] 23 (some 0)]) (bx := H2.length) (x := .slice (some ⟨H.length + 1, 0, none⟩) (n + m + 1) (n + m + 1)) (bytes := 24) (fl := h0.length) (c := 1)
    (v := rows) (k := m) (el := 23) (b := br) (by
      rcases K.rows with h | ⟨h1, h2, h3, h4⟩
      · exact .inl h
      · have hbl := (List.getElem?_eq_some_iff.1 h3).1
        refine .inr ⟨h1, h2, ?_, h4⟩
        rw [List.getElem?_append_left (by omega), o2 br hbl]; exact h3) (by simp [rd]) rfl (by simp [roomMax]; omega) (by have := K.lr; omega)
  have hl4 : (H2 ++ [O.cells [Value.slice (some ⟨H.length + 1, 0, none⟩) (n + m + 1) (n + m + 1)] 23 (some 0)]).length = H.length + 3 := by simp; omega
  rw [hl4] at e5 u1 u2 u3
  have o5 : ∀ c, c < H.length + 2 → (0 < m → c ≠ br) → H5[c]? = H2[c]? := fun c hc hcb => by
    rw [u3 c (by omega) hcb, List.getElem?_append_left (by omega)]
  have hbr : 0 < m → br < H.length ∧ H[br]? = some (.cells ((List.range m).map fun a => .slice (some ⟨rb a, 0, none⟩) (n + m + 1) (n + m + 1)) 23 (some 1)) := fun hi0 => by
    rcases K.rows with h | ⟨_, _, h3, _⟩
    · omega
    · exact ⟨(List.getElem?_eq_some_iff.1 h3).1, h3⟩
  have hbb : 0 < m → bb < H.length ∧ H[bb]? = some (.cells (List.replicate m (.int .i64 (-1))) 3 (some 1)) ∧ bas = .slice (some ⟨bb, 0, none⟩) m m := fun hi0 => by
    rcases K.bas with h | ⟨_, h2, h3, _⟩
    · omega
    · exact ⟨(List.getElem?_eq_some_iff.1 h3).1, h3, h2⟩
  have qbr : 0 < m → q ≠ br := fun hi0 e => by
    have := (hbr hi0).2; rw [← e, K.str] at this; simp at this
  have qbb : 0 < m → q ≠ bb := fun hi0 e => by
    have := (hbb hi0).2.1; rw [← e, K.str] at this; simp at this
  have bbr : 0 < m → bb ≠ br := fun hi0 e => by
    have h1 := (hbr hi0).2; have h2 := (hbb hi0).2.1; rw [e, h1] at h2; simp at h2
  have mbr : 0 < m → qm ≠ br := fun hi0 e => by
    have := (hbr hi0).2; rw [← e, K.map] at this; simp at this
  have mbb : 0 < m → qm ≠ bb := fun hi0 e => by
    have := (hbb hi0).2.1; rw [← e, K.map] at this; simp at this
  have mq : qm ≠ q := fun e => by have := K.map; rw [e, K.str] at this; simp at this
  have hqmlt := (List.getElem?_eq_some_iff.1 K.map).1
  have rlt : ∀ a, a < m → rb a < H.length := fun a ha => (List.getElem?_eq_some_iff.1 (K.row a ha).2).1
  have rq : ∀ a, a < m → rb a ≠ q := fun a ha e => by have := (K.row a ha).2; rw [e, K.str] at this; simp at this
  have rm : ∀ a, a < m → rb a ≠ qm := fun a ha e => by have := (K.row a ha).2; rw [e, K.map] at this; simp at this
  have rbr : ∀ a, a < m → rb a ≠ br := fun a ha e => by have := (K.row a ha).2; rw [e, (hbr (by omega)).2] at this; simp at this
  have rbb : ∀ a, a < m → rb a ≠ bb := fun a ha e => by
    have := (K.row a ha).2; rw [e, (hbb (by omega)).2.1] at this
    have := congrArg (fun o => match o with | some (O.cells l _ _) => l.length | _ => 0) this
    simp at this; omega
  have str5 := (o5 q (by omega) qbr).trans ((o2 q hqlt).trans K.str)
  obtain ⟨H6, w6, x1, x2, x3⟩ := wr_cell (j := 3) (x := .slice (some ⟨H.length + 3, 0, none⟩) (m + 1) (m + 1)) str5 rfl (by simp) rfl
  simp only [setL, List.set] at x1
  have ofin : ∀ c, c < H.length → c ≠ q → (0 < m → c ≠ br) → H6[c]? = H[c]? := fun c hc hcq hcb => by rw [x3 c hcq, o5 c (by omega) hcb, o2 c hc]
  have mf : min h0.length q = h0.length := by omega
  have hfin := hQ { p := q, br := H.length + 3, bb := bb, bm := qm, rb := fun a => if a < m then rb a else H.length + 1, vA := vA, vB := vB, vC := .slice aC n cC, vBas := bas, m := m, n := n, F := fun _ => none } H6 rfl
    ⟨by simp only; omega, by simp only; omega, by
      rcases K.bas with ⟨h, _, h3⟩ | ⟨h1, h2, h3, _⟩
      · exact .inl ⟨h, by simp only [h3]⟩
      · refine .inr ⟨by have := K.lb; simp only; omega, h2, fun e => qbb h1 e.symm, by have := (hbb h1).1; simp only; omega, fun e => mbb h1 e.symm, fun i hi => ?_⟩
        show (if i < m then rb i else H.length + 1) ≠ bb
        split
        · exact rbb i (by assumption)
        · have := (hbb h1).1; omega, by simp only; omega, fun i hi => by
      show h0.length ≤ (if i < m then rb i else H.length + 1) ∧ (if i < m then rb i else H.length + 1) ≠ q ∧ (if i < m then rb i else H.length + 1) ≠ H.length + 3 ∧ (if i < m then rb i else H.length + 1) ≠ qm
      split
      · rename_i hlt
        refine ⟨?_, rq i hlt, by have := rlt i hlt; omega, rm i hlt⟩
        have := (K.row i hlt).1; omega
      · exact ⟨by omega, by omega, by omega, by omega⟩, fun i j hi hj e => by
      rw [Lay.M_eq] at hi hj
      replace hi : i < m + 1 := hi
      replace hj : j < m + 1 := hj
      replace e : (if i < m then rb i else H.length + 1) = (if j < m then rb j else H.length + 1) := e
      split at e <;> split at e
      · exact K.inj i j (by assumption) (by assumption) e
      · have := rlt i (by assumption); omega
      · have := rlt j (by assumption); omega
      · omega, by simp only; omega, fun e => mq e.symm, by simp only; omega, by simp only; omega, fun b x hb => by cases hb⟩
    ⟨k01.trans ((K.keep.mk' (lo := h1.length) (by omega) (Nat.le_refl _) fun c hc => ofin c (by omega) (by omega) (fun _ => by have := K.lr; omega))), x1, ?_, fun a ha => ?_, fun hm0 => ?_, ?_, fun b x hb => by cases hb⟩ rfl rfl rfl rfl rfl rfl
  · unfold tbE rb57
    simp [g1, g3, g4, rrH, r2H, DC_of lcl, em, eZ, e5, mf, w6]
    refine ⟨⟨rfl, fun h => absurd h (by decide), fun _ e => by omega⟩, ⟨fun h => absurd h (by decide), fun h => absurd h (by decide), fun h => absurd h (by decide), fun h => absurd h (by decide)⟩, ⟨fun h => absurd h (by decide), fun h => absurd h (by decide), rfl, fun h => absurd h (by decide), rfl⟩, ?_⟩
    simpa [back, Out.scalar, scalar, flat1, flat, pairQ] using hfin
  · rw [x3 _ (show H.length + 3 ≠ q by omega), u1, Lay.M_eq, List.range_succ, List.map_append]
    show some (O.cells (((List.range m).map fun a => Value.slice (some ⟨rb a, 0, none⟩) (n + m + 1) (n + m + 1)) ++ [Value.slice (some ⟨H.length + 1, 0, none⟩) (n + m + 1) (n + m + 1)]) 23 (some 1)) = some (O.cells (((List.range m).map fun a => Value.slice (some ⟨if a < m then rb a else H.length + 1, 0, none⟩) (n + m + 1) (n + m + 1)) ++ [Value.slice (some ⟨if m < m then rb m else H.length + 1, 0, none⟩) (n + m + 1) (n + m + 1)]) 23 (some 1))
    rw [if_neg (Nat.lt_irrefl m)]
    refine congrArg (fun l => some (O.cells (l ++ [Value.slice (some ⟨H.length + 1, 0, none⟩) (n + m + 1) (n + m + 1)]) 23 (some 1))) (List.map_congr_left fun a ha => ?_)
    rw [if_pos (List.mem_range.1 ha)]
  · rw [Lay.M_eq] at ha
    replace ha : a < m + 1 := ha
    show H6[if a < m then rb a else H.length + 1]? = some (O.cells (cellsF (n + m + 1) (T0Z A B C a)) 3 (some 1))
    by_cases hlt : a < m
    · rw [if_pos hlt, ofin _ (rlt a hlt) (rq a hlt) (fun _ => rbr a hlt)]; exact (K.row a hlt).2
    · rw [if_neg hlt, x3 _ (by omega), o5 _ (by omega) (fun h => by have := (hbr h).1; omega), z1]
      refine congrArg (fun l => some (O.cells l 3 (some 1))) (cellsF_congr fun j hj => ?_)
      simp only [T0Z, tab0]
      rw [if_neg (show ¬ a < A.length by omega), nth_zeros]
  · rw [ofin _ (hbb hm0).1 (fun e => qbb hm0 e.symm) (fun h => bbr h), (hbb hm0).2.1]
    refine congrArg (fun l => some (O.cells l 3 (some 1))) ?_
    simp [cellsF, tab0, basZ, List.map_const']
  · rw [ofin _ hqmlt mq mbr]; exact K.map
end Go.Proofs.Ytdbkhecnkhjhpaa
/- The contract of tableauOf. -/
namespace Go.Proofs.Ytdbkhecnkhjhpaa
open Go Go.Ai
set_option linter.unusedSimpArgs false
set_option linter.unusedVariables false
attribute [local instance] Classical.propDecidable
variable {E : Env} (hE : LpE E)

theorem tbI_eq : tbI = .ops false [⟨some 15, none, .mv (.tmp 4), 0⟩, ⟨some 16, none, .mv (.const (.int .i64 0)), 0⟩] := rfl
theorem tbT_eq : tbT = .ops false [⟨some 17, none, .bin .lss (.tmp 16) (.tmp 15), 0⟩] := rfl
theorem tbC_eq : tbC = .cond (.tmp 17) .skip (.exit 0) := rfl
theorem tbN_eq : tbN = .ops false [⟨some 70, none, .bin .add (.tmp 16) (.const (.int .i64 1)), 0⟩, ⟨some 16, none, .mv (.tmp 70), 0⟩] := rfl
include hE
theorem tab57 {h : List O} {vA vB vC : Value} {A : List (List Int)} {B C : List Int} (hp : LpAt h (.agg #[vA, vB, vC]) A B C) (hv : Valid A B C) :
    DC E 57 [.agg #[vA, vB, vC]] ⟨h, h.length⟩ fun out st' => ∃ L : Lay, out = .ret (.pointer (some ⟨L.p, 0, none⟩)) ∧ L.Ok h ∧ TabAt h L (tab0 (T0Z A B C)) [] 0 st'.h ∧ L.m = A.length ∧ L.n = C.length ∧ L.vA = vA ∧ L.vB = vB ∧ L.vC = vC ∧ (∃ a c, L.vC = .slice a L.n c) ∧ L.F = (fun _ => none) ∧ st'.fl = h.length := by
  refine hE.fnC (body := rb57) rfl (by decide) ?_
  rw [rb57_eq, DW_seq, DW_ops]
  refine DL_boxed fun h' p hx hlen hp0 hb => ?_
  simp at hb
  replace hp := hp.ext hx
  obtain ⟨vA', vB', vC', eq, r0, r1, r2, rN, hA, hB, hC⟩ := boxLp (h := h) (v := .agg #[vA, vB, vC]) hb rfl hp
  simp only [Value.agg.injEq, Array.mk.injEq, List.cons.injEq, and_true] at eq
  obtain ⟨rfl, rfl, rfl⟩ := eq
  obtain ⟨v1, v2, v3, v4, v5, v6, v7⟩ := hv
  have hv : Valid A B C := ⟨v1, v2, v3, v4, v5, v6, v7⟩
  have hC0 := hC
  obtain ⟨aC, bC, oC, cC, rfl, hC2, hC3, hC4, hC5⟩ := hC
  obtain ⟨aB, bB, oB, cB, rfl, hB2, hB3, hB4, hB5⟩ := hB
  obtain ⟨aA, bA, oA, cA, vs, rfl, hA2, hA3, hA4⟩ := hA
  simp
  show DW E (match rb57 with | .seq _ (.seq b _) => b | _ => .skip) _ _ _
  unfold rb57
  simp [rN]
  show DW E (match rb57 with | .seq _ (.seq _ (.seq c _)) => c | _ => .skip) _ _ _
  unfold rb57
  obtain ⟨H0, hH0⟩ : ∃ H0, H0 = h' ++ [O.map [] 0, O.cells [.slice aA A.length cA, .slice aB B.length cB, .slice aC C.length cC, .slice none 0 0, .int .i64 1, .slice none 0 0, .map (some h'.length)] 88 (some 0)] := ⟨_, rfl⟩
  have eH0 : Ext h' H0 := ⟨_, hH0⟩
  have strH0 : H0[h'.length + 1]? = some (.cells [.slice aA A.length cA, .slice aB B.length cB, .slice aC C.length cC, .slice none 0 0, .int .i64 1, .slice none 0 0, .map (some h'.length)] 88 (some 0)) := by rw [hH0, List.getElem?_append_right (by omega)]; simp
  have mapH0 : H0[h'.length]? = some (.map [] 0) := by rw [hH0]; simp
  rw [← hH0]
  have r0H := eH0.rd r0
  simp [r0H]
  rw [tbI_eq, tbT_eq, tbC_eq, tbN_eq]
  simp
  refine DW_loop (fun k fr st => ∃ i rows bas rb br bb H, i + k = A.length ∧ st = ⟨H, h.length⟩ ∧ get fr 1 = .pointer (some ⟨p, 0, none⟩) ∧ get fr 3 = .pointer (some ⟨h'.length + 1, 0, none⟩) ∧ get fr 4 = .int .i64 A.length ∧ get fr 15 = .int .i64 A.length ∧ get fr 16 = .int .i64 i ∧
    Bld h' (h'.length + 1) h'.length (.slice aA A.length cA) (.slice aB B.length cB) (.slice aC C.length cC) (C.length + A.length + 1) (T0Z A B C) i rows bas rb br bb H) ?_ (k := A.length) ?_
  · rintro k fr st ⟨i, rows, bas, rb, br, bb, H, hi, rfl, g1, g3, g4, g15, g16, K⟩
    by_cases hlt : i < A.length
    · obtain rfl := hA2 (by omega)
      obtain rfl := hB2 (by omega)
      simp [g15, g16, hlt]
      refine tbRow hE hv (p := p) (q := h'.length + 1) (qm := h'.length) (m := A.length) (n := C.length) (i := i) (A := A) (B := B) (C := C) (vs := vs) rfl rfl (by omega) r0 (by rw [← v2]; exact r1) hlt (hA3 i hlt) (hB3 i (by omega)) (by rw [← v2] at K ⊢; exact K) (by simp [g1]) (by simp [g3]) (by simp [g4]) (by simp [g15]) (by simp [g16]) ?_
      intro fr' H' rows' bas' rb' br' bb' K' e1 e3 e4 e15 e16
      simp at e1 e3 e4 e15 e16
      simp [e1, e3, e4, e15, e16, g1, g3, g4, g15, g16]
      refine ⟨k - 1, by omega, i + 1, by omega, by rw [w64_id] <;> omega, rows', bas', rb', br', bb', ?_⟩
      rw [v2]; exact K'
    · have : i = A.length := by omega
      subst this
      simp [g15, g16]
      refine tbEnd hE hv (h1 := h') (p := p) (q := h'.length + 1) (qm := h'.length) rfl rfl (Keep.of_ext hx) r2 hC0 K (by simp [g1]) (by simp [g3]) (by simp [g4]) rfl ?_
      intro L H' e1 e2 e3 e4 e5 e6 e7 e8 e9
      exact ⟨L, by rw [e1], e2, e3, e4, e5, e8, e9, e6, ⟨aC, cC, by rw [e6, e5]⟩, e7, rfl⟩
  · refine ⟨0, .slice none 0 0, .slice none 0 0, fun _ => 0, h'.length, h'.length, H0, by omega, rfl, by simp, by simp, by simp, by simp, by simp, ?_⟩
    exact ⟨Keep.of_ext eH0, by omega, by omega, strH0, mapH0, .inl ⟨rfl, rfl, rfl⟩, .inl ⟨rfl, rfl, rfl⟩, fun a ha => by omega, fun a b ha => by omega, by omega, by omega⟩
end Go.Proofs.Ytdbkhecnkhjhpaa
/- The solution of a tableau: the walk through the map of the basis. -/
namespace Go.Proofs.Ytdbkhecnkhjhpaa
open Go Go.Ai
set_option linter.unusedSimpArgs false
set_option linter.unusedVariables false
attribute [local instance] Classical.propDecidable
variable {E : Env} (hE : LpE E) {h0 h : List O} {L : Lay} {s : Tab} {l : List (Int × Int × Nat)} {clock : Nat} {T0 : Nat → Nat → Int}

def s60a : R := match rb60 with | .seq a _ => a | _ => .skip
def s60b : R := match rb60 with | .seq _ (.seq b _) => b | _ => .skip
def s60c : R := match rb60 with | .seq _ (.seq _ (.seq (.seq c _) _)) => c | _ => .skip
def s60L : R := match rb60 with | .seq _ (.seq _ (.seq (.seq _ (.block _ (.loop (.seq _ (.seq _ (.block _ b)))))) _)) => b | _ => .skip
def s60E : R := match rb60 with | .seq _ (.seq _ (.seq _ e)) => e | _ => .skip
theorem rb60_eq : rb60 = .seq s60a (.seq s60b (.seq (.seq s60c (.block 0 (.loop (.seq (.ops false [⟨some 19, none, .next (.tmp 18), 0⟩, ⟨some 20, none, .extract (.tmp 19) 0, 0⟩]) (.seq (.cond (.tmp 20) .skip (.exit 0)) (.block 1 s60L)))))) s60E)) := rfl

/-- What has been written after some of the map's entries have been seen. -/
noncomputable def seenF (l : List (Int × Int × Nat)) (seen : List Nat) (v d : Nat → Int) (j : Nat) : Int := if ∃ x ∈ l, x.1 = (j : Int) ∧ x.2.2 ∈ seen then v j else d j
theorem seenF_nil {l : List (Int × Int × Nat)} {v d : Nat → Int} (j : Nat) : seenF l [] v d j = d j := by
  unfold seenF; rw [if_neg]; rintro ⟨x, _, _, h⟩; simp at h
theorem seenF_snoc {l : List (Int × Int × Nat)} {seen : List Nat} {v d : Nat → Int} {x : Int × Int × Nat} {c : Nat} (hx : x ∈ l) (hc : x.1 = c) (hp : l.Pairwise fun x y => x.1 ≠ y.1 ∧ x.2.2 ≠ y.2.2) (j : Nat) :
    seenF l (seen ++ [x.2.2]) v d j = if j = c then v j else seenF l seen v d j := by
  unfold seenF
  by_cases hj : j = c
  · rw [if_pos hj, if_pos ⟨x, hx, by omega, by simp⟩]
  · rw [if_neg hj]
    by_cases h : ∃ y ∈ l, y.1 = (j : Int) ∧ y.2.2 ∈ seen
    · obtain ⟨y, h1, h2, h3⟩ := h
      rw [if_pos ⟨y, h1, h2, by simp [h3]⟩, if_pos ⟨y, h1, h2, h3⟩]
    · rw [if_neg h, if_neg]
      rintro ⟨y, h1, h2, h3⟩
      rcases List.mem_append.1 h3 with h3 | h3
      · exact h ⟨y, h1, h2, h3⟩
      · simp at h3
        have : y = x := by
          refine Classical.byContradiction fun hne => ?_
          have : x.2.2 ≠ y.2.2 := by
            have hp' : l.Pairwise fun x y => x.2.2 ≠ y.2.2 := hp.imp fun h => h.2
            rcases List.mem_iff_getElem.1 hx with ⟨a, ha, ea⟩
            rcases List.mem_iff_getElem.1 h1 with ⟨b, hb, eb⟩
            rw [List.pairwise_iff_getElem] at hp'
            rcases Nat.lt_trichotomy a b with hab | hab | hab
            · have := hp' a b ha hb hab; rw [ea, eb] at this; exact this
            · subst hab; rw [ea] at eb; exact absurd eb.symm hne
            · have := hp' b a hb ha hab; rw [ea, eb] at this; exact fun e => this e.symm
          exact this h3.symm
        subst this; omega
theorem wrN_mid {h : List O} {N j : Nat} {f : Nat → Int} {el : TypeId} {sz : Nat} {x : Int} {o : O} (hj : j < N) : wrN ((h ++ [.cells (cellsF N f) el (some sz)]) ++ [o]) h.length j [.int .i64 x] = some ((h ++ [.cells (cellsF N fun k => if k = j then x else f k) el (some sz)]) ++ [o]) := by
  have hg : ((h ++ [O.cells (cellsF N f) el (some sz)]) ++ [o])[h.length]? = some (.cells (cellsF N f) el (some sz)) := by
    rw [List.getElem?_append_left (by simp)]; exact get_last
  simp only [wrN, hg]
  rw [if_pos ⟨by simp; omega, by simp [one1]⟩, cellsF_setL hj, List.set_append_left _ _ (by simp)]
  simp
theorem set_last {α : Type} {l : List α} {a b : α} : (l ++ [a]).set l.length b = l ++ [b] := by simp

include hE
theorem sol60 (h60 : E.S 60 = none) (T : TabAt h0 L s l clock h) (o : L.Ok h0) (hM : MapOk L.m s.bas l clock) (hI : TInv L.m L.n T0 s) (hs : Small L s) {a : Option Addr} {cc : Nat} (hC : L.vC = .slice a L.n cc) :
    ∃ X, X = lowL (listF (L.n + 1) fun j => if j < L.n then xB s L.m L.n j else s.den) ∧ PC E 60 [.pointer (some ⟨L.p, 0, none⟩)] ⟨h, h.length⟩ fun out st' => out = .ret (.tuple #[.slice (some ⟨h.length, 0, none⟩) L.n L.n, .int .i64 (nth X L.n)]) ∧
      st' = ⟨((h ++ [.cells (X.map (.int .i64)) 3 (some 0)]) ++ [.dead]) ++ [.cells [.slice (some ⟨h.length, 0, none⟩) (L.n + 1) (L.n + 1)] 23 (some 0)], h.length⟩ := by
  refine ⟨_, rfl, ?_⟩
  refine PC_fn (by rw [hE.F]; rfl) h60 ?_
  have sm := o.small
  have l62 : ∀ h, DR E 62 [.agg #[L.vA, L.vB, .slice a L.n cc]] ⟨h, h.length⟩ (.ret (.int .i64 L.n)) ⟨h, h.length⟩ := fun h => cols62 hE
  have rLp := T.rdLp
  rw [hC] at rLp
  have rMap := T.rdMap
  rw [rb60_eq]
  refine PW_seqD ?_
  show DW E (match rb60 with | .seq a _ => a | _ => .skip) _ _ _
  unfold rb60
  simp
  refine PW_seqD ?_
  show DW E (match rb60 with | .seq _ (.seq b _) => b | _ => .skip) _ _ _
  unfold rb60
  have en : IntKind.i64.wrap ((L.n : Int) + 1) = (L.n : Int) + 1 := by rw [w64_id] <;> omega
  have c1 : 0 ≤ (L.n : Int) + 1 ∧ ((L.n : Int) + 1) * 8 ≤ 140737488355328 ∧ (L.n : Int) + 1 < 4611686018427387904 := by omega
  have ez : rep (L.n + 1) [Value.int .i64 0] = cellsF (L.n + 1) (seenF l [] (xB s L.m L.n) fun _ => 0) := by
    rw [cellsF_congr (g := fun _ => 0) fun j _ => seenF_nil j]
    have e1 : ∀ k, rep k [Value.int .i64 0] = List.replicate k (.int .i64 0) := fun k => by
      induction k with
      | zero => rfl
      | succ k ih => simp [rep, ih, List.replicate_succ]
    rw [e1]
    simp [cellsF, List.map_const']
  simp [rLp, DC_of (l62 _), en, eq_true c1, ez]
  generalize hX : lowL (listF (L.n + 1) fun j => if j < L.n then xB s L.m L.n j else s.den) = X
  refine PW_seq (PW_seqD ?_)
  show DW E (match rb60 with | .seq _ (.seq _ (.seq (.seq c _) _)) => c | _ => .skip) _ _ _
  unfold rb60
  have rMap1 := rd_append rMap [.cells (cellsF (L.n + 1) (seenF l [] (xB s L.m L.n) fun _ => 0)) 3 (some 0)]
  have mMap1 : (h ++ [O.cells (cellsF (L.n + 1) (seenF l [] (xB s L.m L.n) fun _ => 0)) 3 (some 0)])[L.bm]? = some (.map (l.map entZ) clock) := get_ext (Ext.snoc _ _) T.map
  have eI := rangeVS_ent (f := h.length) mMap1
  simp [rMap1, eI, -List.append_assoc]
  refine PW_walk (l := l) (bm := L.bm) (r := h.length + 1) (clock := clock) (hM.keys.imp fun h => h.2) (fun seen fr H => get fr 0 = .pointer (some ⟨L.p, 0, none⟩) ∧ get fr 4 = .slice (some ⟨h.length, 0, none⟩) (L.n + 1) (L.n + 1) ∧ get fr 18 = .pointer (some ⟨h.length + 1, 0, none⟩) ∧
    H = (h ++ [.cells (cellsF (L.n + 1) (seenF l seen (xB s L.m L.n) fun _ => 0)) 3 (some 0)]) ++ [.iter (some L.bm) clock seen clock]) (by decide) (by omega) ?_ ?_ ?_ ⟨by simp, by simp, by simp, rfl⟩
  · rintro seen fr H ⟨g0, g4, g18, rfl⟩
    refine ⟨g18, by simp, ?_⟩
    exact get_ext ((Ext.snoc _ _).trans (Ext.snoc _ _)) T.map
  · rintro seen fr H x ⟨g0, g4, g18, rfl⟩ hx hxs
    obtain ⟨c, r, hc, hr, hrm, hbas⟩ := hM.only x hx
    have hcn := (hI.basic r c hbas).1
    obtain ⟨x1, x2, b⟩ := x
    simp only at hc hr hxs
    subst hc hr
    generalize hf : seenF l seen (xB s L.m L.n) (fun _ => 0) = f
    have es : ((h ++ [O.cells (cellsF (L.n + 1) f) 3 (some 0)]) ++ [O.iter (some L.bm) clock seen clock]).set (h.length + 1) (.iter (some L.bm) clock (seen ++ [b]) clock) = (h ++ [O.cells (cellsF (L.n + 1) f) 3 (some 0)]) ++ [O.iter (some L.bm) clock (seen ++ [b]) clock] := by
      have := set_last (l := h ++ [O.cells (cellsF (L.n + 1) f) 3 (some 0)]) (a := O.iter (some L.bm) clock seen clock) (b := .iter (some L.bm) clock (seen ++ [b]) clock)
      rw [List.length_append, List.length_singleton] at this
      exact this
    rw [es]
    have eM : Ext h ((h ++ [O.cells (cellsF (L.n + 1) f) 3 (some 0)]) ++ [O.iter (some L.bm) clock (seen ++ [b]) clock]) := (Ext.snoc _ _).trans (Ext.snoc _ _)
    have TM := T.ext eM
    have l70 := right70 hE TM o hC (i := r) (by rw [L.M_eq]; omega)
    have eE := entryVS_ent (h := (h ++ [O.cells (cellsF (L.n + 1) f) 3 (some 0)]) ++ [O.iter (some L.bm) clock (seen ++ [b]) clock]) (f := h.length) (r := h.length + 1) (b := L.bm) (since := clock) (clock := clock) (seen := seen ++ [b]) (x := ((c : Int), (r : Int), b)) (by simp) TM.map (by simp) (hM.keys.imp fun h => h.2) hx
    have w := wrN_mid (h := h) (N := L.n + 1) (f := f) (el := 3) (sz := 0) (j := c) (x := s.t r (L.n + L.m)) (o := O.iter (some L.bm) clock (seen ++ [b]) clock) (by omega)
    show DW E (match rb60 with | .seq _ (.seq _ (.seq (.seq _ (.block _ (.loop (.seq _ (.seq _ (.block _ b)))))) _)) => b | _ => .skip) _ _ _
    unfold rb60
    generalize (h ++ [O.cells (cellsF (L.n + 1) f) 3 (some 0)]) ++ [O.iter (some L.bm) clock (seen ++ [b]) clock] = M at eM TM l70 eE w ⊢
    have d2 : (c : Int) < (L.n : Int) + 1 := by omega
    simp [g0, g4, g18, eE, DC_of l70, w, eq_true d2, -List.append_assoc]
    rw [← hf]
    refine cellsF_congr fun j hj => ?_
    rw [seenF_snoc hx rfl hM.keys]
    by_cases hjc : j = c
    · subst hjc; rw [if_pos rfl, if_pos rfl, xB_in hI hbas]
    · rw [if_neg hjc, if_neg hjc]
  · rintro seen fr H ⟨g0, g4, g18, rfl⟩ hall
    have ec : cellsF (L.n + 1) (seenF l seen (xB s L.m L.n) fun _ => 0) = cellsF (L.n + 1) fun j => if j < L.n then xB s L.m L.n j else 0 := by
      refine cellsF_congr fun j hj => ?_
      unfold seenF
      by_cases hjn : j < L.n
      · rw [if_pos hjn]
        split
        · rfl
        · rename_i hno
          rw [xB_out hI]
          intro i hb
          obtain ⟨b, hb2⟩ := hM.all i j hb
          exact hno ⟨_, hb2, rfl, hall _ hb2⟩
      · rw [if_neg hjn, if_neg]
        rintro ⟨x, hx, hxj, _⟩
        obtain ⟨c, r, hc, hr, hrm, hbas⟩ := hM.only x hx
        have := (hI.basic r c hbas).1
        omega
    rw [ec]
    have es : ((h ++ [O.cells (cellsF (L.n + 1) fun j => if j < L.n then xB s L.m L.n j else 0) 3 (some 0)]) ++ [O.iter (some L.bm) clock seen clock]).set (h.length + 1) .dead = (h ++ [O.cells (cellsF (L.n + 1) fun j => if j < L.n then xB s L.m L.n j else 0) 3 (some 0)]) ++ [O.dead] := by
      have := set_last (l := h ++ [O.cells (cellsF (L.n + 1) fun j => if j < L.n then xB s L.m L.n j else 0) 3 (some 0)]) (a := O.iter (some L.bm) clock seen clock) (b := .dead)
      rw [List.length_append, List.length_singleton] at this
      exact this
    rw [es]
    have w := wrN_mid (h := h) (N := L.n + 1) (f := fun j => if j < L.n then xB s L.m L.n j else 0) (el := 3) (sz := 0) (j := L.n) (x := s.den) (o := O.dead) (by omega)
    have ew : cellsF (L.n + 1) (fun k => if k = L.n then s.den else if k < L.n then xB s L.m L.n k else 0) = (listF (L.n + 1) fun j => if j < L.n then xB s L.m L.n j else s.den).map (.int .i64) := by
      rw [← cellsF_list]
      refine cellsF_congr fun j hj => ?_
      by_cases c : j = L.n
      · rw [if_pos c, if_neg (by omega)]
      · rw [if_neg c, if_pos (by omega), if_pos (by omega)]
    rw [ew] at w
    generalize hYs : (listF (L.n + 1) fun j => if j < L.n then xB s L.m L.n j else s.den) = Y at w hX
    have hYl : Y.length = L.n + 1 := by rw [← hYs]; simp
    have hYb : ∀ i, -268435456 ≤ nth Y i ∧ nth Y i ≤ 268435456 := by
      rw [← hYs]
      refine fun i => listF_within (M := 268435456) (by omega) (fun j hj => ?_) i
      have hd := hs.1
      have hp := hI.pos
      by_cases c : j < L.n
      · rw [if_pos c]
        unfold xB
        split
        · rename_i i hi
          obtain ⟨b, hb2⟩ := hM.all i j (hI.rowOf_some.1 hi)
          obtain ⟨_, r, _, hr, hrm, _⟩ := hM.only _ hb2
          simp only at hr
          exact hs.2 i (L.n + L.m) (by rw [L.M_eq]; omega) (by rw [L.N_eq]; omega)
        · omega
      · rw [if_neg c]; omega
    have eM1 : Ext h ((h ++ [O.cells (cellsF (L.n + 1) fun j => if j < L.n then xB s L.m L.n j else 0) 3 (some 0)]) ++ [O.dead]) := (Ext.snoc _ _).trans (Ext.snoc _ _)
    have rLp1 := (T.ext eM1).rdLp
    rw [hC] at rLp1
    have rDen1 := (T.ext eM1).rdDen
    refine PW_of_DW ?_
    show DW E (match rb60 with | .seq _ (.seq _ (.seq _ e)) => e | _ => .skip) _ _ _
    unfold rb60
    generalize (h ++ [O.cells (cellsF (L.n + 1) fun j => if j < L.n then xB s L.m L.n j else 0) 3 (some 0)]) ++ [O.dead] = M at eM1 rLp1 rDen1 w ⊢
    have lw := lowest29 hE (H := ((h ++ [.cells (Y.map (.int .i64)) 3 (some 0)]) ++ [.dead]) ++ [.cells [.slice (some ⟨h.length, 0, none⟩) (L.n + 1) (L.n + 1)] 23 (some 0)]) (bL := h.length + 2) (oL := 0) (cL := 1) (b := h.length) (n := L.n + 1) (c := L.n + 1) (s := 0) (el := 3) (xs := Y) (by simp [rd, hYl]) (by simp) (by omega) (by omega) (fun j => by have := hYb j; omega)
    have d3 : (L.n : Int) < (L.n : Int) + 1 := by omega
    have hl1 : ((h ++ [O.cells (Y.map (Value.int .i64)) 3 (some 0)]) ++ [O.dead]).length = h.length + 2 := by simp
    simp [g0, g4, rLp1, DC_of (l62 _), rDen1, w, eq_true d3, fillL, setL, hl1, -List.append_assoc]
    refine ⟨⟨fun h => absurd h (by decide), rfl, fun h => absurd h (by decide)⟩, ?_⟩
    have hl2 : ((h ++ [O.cells (Y.map (Value.int .i64)) 3 (some 0)]) ++ [O.dead] ++ [O.cells [Value.slice (some ⟨h.length, 0, none⟩) (L.n + 1) (L.n + 1)] 23 (some 0)]).length = h.length + 2 + 1 := by simp
    rw [hl2] at lw
    refine lw.imp ?_
    rintro out st' ⟨rfl, f, rfl, hf⟩
    have hset : ((h ++ [O.cells (Y.map (Value.int .i64)) 3 (some 0)]) ++ [O.dead] ++ [O.cells [Value.slice (some ⟨h.length, 0, none⟩) (L.n + 1) (L.n + 1)] 23 (some 0)]).set h.length (.cells ((lowL Y).map (.int .i64)) 3 (some 0)) =
        (h ++ [O.cells ((lowL Y).map (Value.int .i64)) 3 (some 0)]) ++ [O.dead] ++ [O.cells [Value.slice (some ⟨h.length, 0, none⟩) (L.n + 1) (L.n + 1)] 23 (some 0)] := by
      rw [List.set_append_left _ _ (by simp), List.set_append_left _ _ (by simp), set_last]
    rw [hset, hX]
    have hXl : X.length = L.n + 1 := by rw [← hX, lowL_length, hYl]
    have eM2 : Ext h ((h ++ [O.cells (X.map (Value.int .i64)) 3 (some 0)]) ++ [O.dead] ++ [O.cells [Value.slice (some ⟨h.length, 0, none⟩) (L.n + 1) (L.n + 1)] 23 (some 0)]) := ((Ext.snoc _ _).trans (Ext.snoc _ _)).trans (Ext.snoc _ _)
    have rLp2 := (T.ext eM2).rdLp
    rw [hC] at rLp2
    have rX : rd ((h ++ [O.cells (X.map (Value.int .i64)) 3 (some 0)]) ++ [O.dead] ++ [O.cells [Value.slice (some ⟨h.length, 0, none⟩) (L.n + 1) (L.n + 1)] 23 (some 0)]) h.length L.n = some (.int .i64 (nth X L.n)) := by
      simp [rd, nth, hXl]
    have sX := sliceV_himx (h := (h ++ [O.cells (X.map (Value.int .i64)) 3 (some 0)]) ++ [O.dead] ++ [O.cells [Value.slice (some ⟨h.length, 0, none⟩) (L.n + 1) (L.n + 1)] 23 (some 0)]) (b := h.length) (o := 0) (len := L.n + 1) (cap := L.n + 1) (hi := L.n) (mx := L.n) (by simp [tagOk]) (by omega) (by omega) (by omega)
    generalize hM2 : (h ++ [O.cells (X.map (Value.int .i64)) 3 (some 0)]) ++ [O.dead] ++ [O.cells [Value.slice (some ⟨h.length, 0, none⟩) (L.n + 1) (L.n + 1)] 23 (some 0)] = M2 at eM2 rLp2 rX sX ⊢
    simp [joined_le (show h.length ≤ f by omega), g0, g4, rLp2, DC_of (l62 _), eq_true d3, rX, sX, -List.append_assoc]
    simp [back, Out.scalar, scalar, flat1, flat, pairQ, ← hM2]
end Go.Proofs.Ytdbkhecnkhjhpaa
/- The optimal result of solve. -/
namespace Go.Proofs.Ytdbkhecnkhjhpaa
open Go Go.Ai
set_option linter.unusedSimpArgs false
set_option linter.unusedVariables false
attribute [local instance] Classical.propDecidable
variable {E : Env} (hE : LpE E) {h1 H : List O} {L : Lay} {s : Tab} {l : List (Int × Int × Nat)} {clock : Nat} {T0 : Nat → Nat → Int}

theorem sliceV_himx0 {h : List O} {b o len cap hi mx : Nat} (ht : tagOk h 1 b = true) (h1 : hi ≤ mx) (h2 : mx ≤ cap) :
    sliceV h 1 (.slice (some ⟨b, o, none⟩) len cap) none (some (.int .i64 hi)) (some (.int .i64 mx)) = some (.slice (some ⟨b, o, none⟩) hi mx) := by
  simp only [sliceV, mxB, hiB, loB, bound, Option.bind_some]
  rw [if_pos ⟨by omega, by omega⟩]
  simp only [Option.bind_some, Int.toNat_natCast]
  rw [if_pos ⟨by omega, by omega⟩]
  simp only [Option.bind_some, Int.toNat_natCast, sliceA]
  rw [if_pos ht]
  simp
theorem wr_res {H : List O} {q : Nat} {cs vals : List Value} (hq : H[q]? = some (.cells cs 27 (some 0))) (hl : cs.length = 6) (hv : vals.length = 6) (h1 : vals.all one1 = true) :
    ∃ H', wrN H q 0 vals = some H' ∧ H'[q]? = some (.cells vals 27 (some 0)) ∧ H'.length = H.length ∧ ∀ c, c ≠ q → H'[c]? = H[c]? := by
  have hlt := (List.getElem?_eq_some_iff.1 hq).1
  refine ⟨H.set q (.cells vals 27 (some 0)), ?_, by simp [hlt], by simp, fun c hc => by rw [List.getElem?_set_ne (fun e => hc e.symm)]⟩
  simp only [wrN, hq]
  rw [if_pos ⟨by omega, h1⟩]
  have : setL cs 0 vals = vals := by
    apply List.ext_getElem?
    intro i
    match cs, vals, hl, hv with
    | [a, b, c, d, e, f], [a', b', c', d', e', f'], _, _ => rfl
  rw [this]

def q39F : R := match rb39 with | .seq _ (.seq _ (.seq _ (.seq _ (.seq _ (.seq f _))))) => f | _ => .skip

include hE
theorem opt39 (T : TabAt h1 L s l clock H) (o : L.Ok h1) (hs : Small L s) {a : Option Addr} {cc : Nat} (hC : L.vC = .slice a L.n cc) {q fl : Nat} (hq : q < h1.length) (hq2 : H[q]? = some (.cells zeroRes6 27 (some 0))) (hfl : fl ≤ q)
    {X : List Int} (hXl : X.length = L.n + 1) {H60 : List O} (e60 : Ext H H60) (l60 : H.length < H60.length) (x60 : H60[H.length]? = some (.cells (X.map (.int .i64)) 3 (some 0)))
    (d60 : DR E 60 [.pointer (some ⟨L.p, 0, none⟩)] ⟨H, H.length⟩ (.ret (.tuple #[.slice (some ⟨H.length, 0, none⟩) L.n L.n, .int .i64 (nth X L.n)])) ⟨H60, H.length⟩)
    {fr : Fr} (g2 : get fr 2 = .pointer (some ⟨q, 0, none⟩)) (g3 : get fr 3 = .pointer (some ⟨L.p, 0, none⟩)) (g7 : get fr 7 = .int .i64 (-1)) {Q : Post}
    (hQ : ∀ Y, Y = lowL (listF (L.m + 1) fun i => if i < L.m then - s.t L.m (L.n + i) else s.den) → ∀ fr' H' yb, get fr' 2 = .pointer (some ⟨q, 0, none⟩) →
      H'[q]? = some (.cells [.int .i64 1, .slice (some ⟨H.length, 0, none⟩) L.n L.n, .int .i64 (nth X L.n), .slice (some ⟨yb, 0, none⟩) L.m L.m, .int .i64 (nth Y L.m), .slice none 0 0] 27 (some 0)) →
      H'[H.length]? = some (.cells (X.map (.int .i64)) 3 (some 0)) → H'[yb]? = some (.cells (Y.map (.int .i64)) 3 (some 0)) → (∀ c, c < H.length → c ≠ q → H'[c]? = H[c]?) → H.length ≤ H'.length → H.length ≤ yb → Q .ret fr' ⟨H', fl⟩) :
    DW E q39F fr ⟨H, fl⟩ Q := by
  have sm := o.small
  have hk1 := T.keep.1
  obtain ⟨aB, hB, hB2⟩ := o.basSlice
  have l62 : ∀ h, DR E 62 [.agg #[L.vA, L.vB, .slice a L.n cc]] ⟨h, h.length⟩ (.ret (.int .i64 L.n)) ⟨h, h.length⟩ := fun h => cols62 hE
  have T60 := T.ext e60
  have rB60 := T60.rdBas
  rw [hB] at rB60
  have en : IntKind.i64.wrap ((L.m : Int) + 1) = (L.m : Int) + 1 := by rw [w64_id] <;> omega
  have c1 : 0 ≤ (L.m : Int) + 1 ∧ ((L.m : Int) + 1) * 8 ≤ 140737488355328 ∧ (L.m : Int) + 1 < 4611686018427387904 := by omega
  have ez : rep (L.m + 1) [Value.int .i64 0] = cellsF (L.m + 1) (fun j => if j < 0 then - s.t L.m (L.n + j) else 0) := by
    have e1 : ∀ k, rep k [Value.int .i64 0] = List.replicate k (.int .i64 0) := fun k => by
      induction k with
      | zero => rfl
      | succ k ih => simp [rep, ih, List.replicate_succ]
    rw [e1]
    simp [cellsF, List.map_const']
  have rB1 : ∀ o, rd (H60 ++ [o]) L.p 5 = some (.slice aB L.m L.m) := fun o => rd_append rB60 [o]
  unfold q39F rb39
  simp [g2, g3, g7, DC_of d60, joined_le (show fl ≤ H.length by omega), rB60, en, eq_true c1, ez, rB1]
  refine DW_loop (fun k fr st => ∃ i : Nat, i + k = L.m ∧ st = ⟨H60 ++ [.cells (cellsF (L.m + 1) fun j => if j < i then - s.t L.m (L.n + j) else 0) 3 (some 0)], fl⟩ ∧ get fr 2 = .pointer (some ⟨q, 0, none⟩) ∧ get fr 3 = .pointer (some ⟨L.p, 0, none⟩) ∧
    get fr 9 = .slice (some ⟨H.length, 0, none⟩) L.n L.n ∧ get fr 10 = .int .i64 (nth X L.n) ∧ get fr 11 = .slice (some ⟨H60.length, 0, none⟩) (L.m + 1) (L.m + 1) ∧ get fr 53 = .int .i64 L.m ∧ get fr 54 = .int .i64 i) ?_ (k := L.m) ?_
  · rintro k fr st ⟨i, hi, rfl, g2, g3, g9, g10, g11, g53, g54⟩
    generalize hf : (fun j => if j < i then - s.t L.m (L.n + j) else 0) = f
    have eM : Ext H60 (H60 ++ [O.cells (cellsF (L.m + 1) f) 3 (some 0)]) := Ext.snoc _ _
    have TM := T60.ext eM
    have hlM : (H60 ++ [O.cells (cellsF (L.m + 1) f) 3 (some 0)]).length = H60.length + 1 := by simp
    by_cases hlt : i < L.m
    · have l61 := costs61 hE TM o
      have rL := TM.rdLp
      rw [hC] at rL
      have l62' := l62 (H60 ++ [O.cells (cellsF (L.m + 1) f) 3 (some 0)])
      have rR := TM.rdRow (i := L.m) (j := L.n + i) (by rw [L.M_eq]; omega) (by rw [L.N_eq]; omega)
      have hb := hs.2 L.m (L.n + i) (by rw [L.M_eq]; omega) (by rw [L.N_eq]; omega)
      have w := wrN_last (h := H60) (N := L.m + 1) (j := i) (f := f) (el := 3) (sz := 0) (x := - s.t L.m (L.n + i)) (by omega)
      generalize H60 ++ [O.cells (cellsF (L.m + 1) f) 3 (some 0)] = M at eM TM l61 rL l62' rR w ⊢
      have d1 : (L.n : Int) + i < L.N := by rw [L.N_eq]; omega
      have d2 : (i : Int) < (L.m : Int) + 1 := by omega
      have d0 : 0 ≤ (L.n : Int) + i := by omega
      have e1 : IntKind.i64.wrap ((L.n : Int) + i) = (L.n : Int) + i := by rw [w64_id] <;> omega
      have e2 : IntKind.i64.wrap (- s.t L.m (L.n + i)) = - s.t L.m (L.n + i) := by rw [w64_id] <;> omega
      have e3 : ((L.n : Int) + i).toNat = L.n + i := by omega
      simp [g2, g3, g9, g10, g11, g53, g54, hlt, DC_of l61, rL, DC_of l62', e1, rR, eq_true d0, eq_true d1, eq_true d2, e2, e3, w]
      refine ⟨⟨fun h => absurd h (by decide), rfl, fun h => absurd h (by decide), rfl⟩, k - 1, by omega, i + 1, by omega, ⟨cellsF_congr fun j hj => ?_, by omega⟩, by rw [w64_id] <;> omega⟩
      rw [← hf]
      show (if j = i then _ else if j < i then _ else _) = _
      by_cases c : j = i
      · subst c; rw [if_pos rfl, if_pos (by omega)]
      · rw [if_neg c]
        by_cases c2 : j < i
        · rw [if_pos c2, if_pos (by omega)]
        · rw [if_neg c2, if_neg (by omega)]
    · have : i = L.m := by omega
      subst this
      have w := wrN_last (h := H60) (N := L.m + 1) (j := L.m) (f := f) (el := 3) (sz := 0) (x := s.den) (by omega)
      have ew : cellsF (L.m + 1) (fun k => if k = L.m then s.den else f k) = (listF (L.m + 1) fun i => if i < L.m then - s.t L.m (L.n + i) else s.den).map (.int .i64) := by
        rw [← cellsF_list, ← hf]
        refine cellsF_congr fun j hj => ?_
        by_cases c : j = L.m
        · rw [if_pos c, if_neg (by omega)]
        · rw [if_neg c]
          show (if j < L.m then _ else _) = _
          rw [if_pos (show j < L.m by omega), if_pos (show j < L.m by omega)]
      rw [ew] at w
      have hb : ∀ i, -268435456 ≤ nth (listF (L.m + 1) fun i => if i < L.m then - s.t L.m (L.n + i) else s.den) i ∧ nth (listF (L.m + 1) fun i => if i < L.m then - s.t L.m (L.n + i) else s.den) i ≤ 268435456 := by
        refine fun i => listF_within (M := 268435456) (by omega) (fun j hj => ?_) i
        have hd := hs.1
        by_cases c : j < L.m
        · rw [if_pos c]
          have := hs.2 L.m (L.n + j) (by rw [L.M_eq]; omega) (by rw [L.N_eq]; omega)
          omega
        · rw [if_neg c]; omega
      have hQ2 := hQ _ rfl
      generalize hYs : (listF (L.m + 1) fun i => if i < L.m then - s.t L.m (L.n + i) else s.den) = Y0 at w hb hQ2
      have hYl0 : Y0.length = L.m + 1 := by rw [← hYs]; simp
      have rB := TM.rdBas
      rw [hB] at rB
      have rD := TM.rdDen
      have d2 : (L.m : Int) < (L.m : Int) + 1 := by omega
      have lw := lowest29 hE (H := ((H60 ++ [.cells (Y0.map (.int .i64)) 3 (some 0)])) ++ [.cells [.slice (some ⟨H60.length, 0, none⟩) (L.m + 1) (L.m + 1)] 23 (some 0)]) (bL := H60.length + 1) (oL := 0) (cL := 1) (b := H60.length) (n := L.m + 1) (c := L.m + 1) (s := 0) (el := 3) (xs := Y0) (by simp [rd, hYl0]) (by simp) (by omega) (by omega) (fun j => by have := hb j; omega)
      have hl1 : (H60 ++ [O.cells (Y0.map (Value.int .i64)) 3 (some 0)]).length = H60.length + 1 := by simp
      have hl2 : ((H60 ++ [O.cells (Y0.map (Value.int .i64)) 3 (some 0)]) ++ [O.cells [Value.slice (some ⟨H60.length, 0, none⟩) (L.m + 1) (L.m + 1)] 23 (some 0)]).length = H60.length + 1 + 1 := by simp
      rw [hl2] at lw
      have mf : min fl H60.length = fl := by omega
      generalize H60 ++ [O.cells (cellsF (L.m + 1) f) 3 (some 0)] = M at eM TM hlM rB rD w ⊢
      simp [g2, g3, g9, g10, g11, g53, g54, rB, rD, eq_true d2, w, fillL, setL, hl1, mf, -List.append_assoc]
      refine ⟨⟨fun h => absurd h (by decide), fun h => absurd h (by decide), fun h => absurd h (by decide)⟩, ?_⟩
      refine lw.imp ?_
      rintro out st' ⟨rfl, f', rfl, hf'⟩
      have hset : ((H60 ++ [O.cells (Y0.map (Value.int .i64)) 3 (some 0)]) ++ [O.cells [Value.slice (some ⟨H60.length, 0, none⟩) (L.m + 1) (L.m + 1)] 23 (some 0)]).set H60.length (.cells ((lowL Y0).map (.int .i64)) 3 (some 0)) =
          (H60 ++ [O.cells ((lowL Y0).map (Value.int .i64)) 3 (some 0)]) ++ [O.cells [Value.slice (some ⟨H60.length, 0, none⟩) (L.m + 1) (L.m + 1)] 23 (some 0)] := by
        rw [List.set_append_left _ _ (by simp), set_last]
      rw [hset]
      have hYl : (lowL Y0).length = L.m + 1 := by rw [lowL_length, hYl0]
      generalize lowL Y0 = Y at hQ2 hYl
      generalize hM2 : (H60 ++ [O.cells (Y.map (Value.int .i64)) 3 (some 0)]) ++ [O.cells [Value.slice (some ⟨H60.length, 0, none⟩) (L.m + 1) (L.m + 1)] 23 (some 0)] = M2
      have e2 : Ext H60 M2 := by rw [← hM2]; exact (Ext.snoc _ _).trans (Ext.snoc _ _)
      have yb2 : M2[H60.length]? = some (.cells (Y.map (.int .i64)) 3 (some 0)) := by rw [← hM2]; simp
      have rB2 := (T60.ext e2).rdBas
      rw [hB] at rB2
      have rY2 : rd M2 H60.length L.m = some (.int .i64 (nth Y L.m)) := by simp [rd, yb2, nth, hYl]
      have sY2 := sliceV_himx0 (h := M2) (b := H60.length) (o := 0) (len := L.m + 1) (cap := L.m + 1) (hi := L.m) (mx := L.m) (by simp [tagOk, yb2]) (by omega) (by omega)
      have q2 := get_ext e2 (get_ext e60 hq2)
      obtain ⟨M3, w3, z1, z2, z3⟩ := wr_res (vals := [.int .i64 1, .slice (some ⟨H.length, 0, none⟩) L.n L.n, .int .i64 (nth X L.n), .slice (some ⟨H60.length, 0, none⟩) L.m L.m, .int .i64 (nth Y L.m), .slice none 0 0]) q2 rfl rfl rfl
      have mf2 : min fl q = fl := by omega
      simp [joined_le (show fl ≤ f' by omega), mf2, g2, g3, g9, g10, g11, rB2, rY2, eq_true d2, sY2, w3, -List.append_assoc]
      refine ⟨⟨fun h => absurd h (by decide), fun h => absurd h (by decide), fun h => absurd h (by decide), fun h => absurd h (by decide), fun h => absurd h (by decide), fun h => absurd h (by decide), fun h => absurd h (by decide), fun h => absurd h (by decide)⟩, ?_⟩
      have hqH : q < H.length := (List.getElem?_eq_some_iff.1 hq2).1
      have l2 : H60.length ≤ M2.length := e2.len
      refine hQ2 _ M3 H60.length ?_ z1 ?_ ?_ (fun c hc hcq => ?_) (by omega) (by omega)
      · simp [g2]
      · rw [z3 _ (by omega)]; exact get_ext e2 x60
      · rw [z3 _ (by omega)]; exact yb2
      · rw [z3 _ hcq]
        obtain ⟨x, hx⟩ := e60.trans e2
        rw [hx, List.getElem?_append_left hc]
  · refine ⟨0, by simp, by simp, ?_, ?_, ?_, ?_, ?_, ?_, ?_⟩ <;> simp [g2, g3]
end Go.Proofs.Ytdbkhecnkhjhpaa
/- Solve's inner function: its first steps. -/
namespace Go.Proofs.Ytdbkhecnkhjhpaa
open Go Go.Ai
set_option linter.unusedSimpArgs false
set_option linter.unusedVariables false
attribute [local instance] Classical.propDecidable
variable {E : Env} (hE : LpE E)

theorem ext_of_agree {H M : List O} (hl : H.length ≤ M.length) (h : ∀ c, c < H.length → M[c]? = H[c]?) : Ext H M := by
  refine ⟨M.drop H.length, ?_⟩
  apply List.ext_getElem?
  intro c
  by_cases hc : c < H.length
  · rw [List.getElem?_append_left hc, h c hc]
  · rw [List.getElem?_append_right (by omega), List.getElem?_drop]
    congr 1; omega
theorem zero6_int {i : Nat} {x : Int} (h : (zeroRes6)[i]? = some (.int .i64 x)) : x = 0 := by
  simp only [zeroRes6] at h
  match i, h with
  | 0, h => simpa using h.symm
  | 1, h => simp at h
  | 2, h => simpa using h.symm
  | 3, h => simp at h
  | 4, h => simpa using h.symm
  | 5, h => simp at h
  | i + 6, h => simp at h
theorem ints_off {H H' : List O} {v : Value} {Y : List Int} {q : Nat} (hv : Ints H v Y) (hz : H[q]? = some (.cells zeroRes6 27 (some 0))) (hne : ∃ i, i < Y.length ∧ nth Y i ≠ 0) (hag : ∀ c, c < H.length → c ≠ q → H'[c]? = H[c]?) : Ints H' v Y := by
  obtain ⟨a, b, o, c, rfl, h2, h3, h4, h5⟩ := hv
  obtain ⟨i, hi, hn⟩ := hne
  have hbq : b ≠ q := fun e => by
    have := h3 i hi
    subst e
    simp only [rd, hz] at this
    exact hn (zero6_int this)
  refine ⟨a, b, o, c, rfl, h2, fun j hj => ?_, h4, h5⟩
  have h1 := h3 j hj
  have hb := rd_lt h1
  simp only [rd] at h1 ⊢
  rw [hag b hb hbq]; exact h1
theorem emp_nonzero {A : List (List Int)} {B C X Y R : List Int} {xd yd : Int} (h : Emp A B C X xd Y yd R) : ∃ i, i < Y.length ∧ nth Y i ≠ 0 := by
  refine Classical.byContradiction fun hc => ?_
  have hz : ∀ i, i < Y.length → nth Y i = 0 := fun i hi => Classical.byContradiction fun hn => hc ⟨i, hi, hn⟩
  obtain ⟨h1, h2, h3, h4, h5, h6, h7⟩ := h
  rw [dotZ, sumN_zero fun k hk => by rw [hz k (by omega), Int.mul_zero]] at h7
  omega
theorem right_emp {A : List (List Int)} {B C X Y R : List Int} {xd yd : Int} (h : Right A B C 2 X xd Y yd R) : Emp A B C X xd Y yd R := by
  rcases h.2 with ⟨h, _⟩ | ⟨_, h⟩ | ⟨h, _⟩
  · omega
  · exact h
  · omega

/-- A run of the first part, and of the rest in one way or another. -/
def seqX (X : R → Fr → St → Post → Prop) (b : R) (Q : Post) : Post
  | .normal, fr, st => X b fr st Q
  | .exit i, fr, st => Q (.exit i) fr st
  | .ret, fr, st => Q .ret fr st
  | .pan v, fr, st => Q (.pan v) fr st
@[simp] theorem seqX_normal {X : R → Fr → St → Post → Prop} {b : R} {Q : Post} {fr st} : seqX X b Q .normal fr st ↔ X b fr st Q := Iff.rfl
@[simp] theorem seqX_ret {X : R → Fr → St → Post → Prop} {b : R} {Q : Post} {fr st} : seqX X b Q .ret fr st ↔ Q .ret fr st := Iff.rfl

/-- A slice that is nothing, or lies in new memory. -/
def NewS (n : Nat) (v : Value) : Prop := v = .slice none 0 0 ∨ ∃ b k c, v = .slice (some ⟨b, 0, none⟩) k c ∧ n ≤ b
/-- What the ends of the inner function say of a result in the block of its result. -/
def Ret39 (h : List O) (A : List (List Int)) (B C : List Int) (fr : Fr) (H : List O) : Prop :=
  ∃ q, ∃ kind xd yd : Int, ∃ X Y R : List Int, ∃ vX vY vR, get fr 2 = .pointer (some ⟨q, 0, none⟩) ∧ H[q]? = some (.cells [.int .i64 kind, vX, .int .i64 xd, vY, .int .i64 yd, vR] 27 (some 0)) ∧ Right A B C kind X xd Y yd R ∧ Ints H vX X ∧ Ints H vY Y ∧ Ints H vR R ∧
    (kind ≠ 2 → ∃ b, vX = .slice (some ⟨b, 0, none⟩) X.length X.length ∧ h.length ≤ b ∧ NewS h.length vY ∧ NewS h.length vR) ∧ Keep h H

def q39B : R := match rb39 with | .seq _ (.seq b _) => b | _ => .skip
def q39C : R := match rb39 with | .seq _ (.seq _ (.seq c _)) => c | _ => .skip
def q39D : R := match rb39 with | .seq _ (.seq _ (.seq _ (.seq d _))) => d | _ => .skip
def q39E : R := match rb39 with | .seq _ (.seq _ (.seq _ (.seq _ (.seq e _)))) => e | _ => .skip
def q39T : R := match rb39 with | .seq _ (.seq _ (.seq _ (.seq _ (.seq _ (.seq _ t))))) => t | _ => .skip
theorem rb39_eq : rb39 = .seq (.ops false [⟨some 1, none, .box 25 (.tmp 0), 0⟩, ⟨some 2, none, .new 27 zeroRes6, 0⟩]) (.seq q39B (.seq q39C (.seq q39D (.seq q39E (.seq q39F q39T))))) := rfl

/-- What stays as it is while the inner function runs. -/
structure Fix39 (h h1 : List O) (p q : Nat) (L : Lay) (vA vB vC : Value) (A : List (List Int)) (B C : List Int) : Prop where
  ext : Ext h h1
  kp : p < h1.length
  kq : h.length ≤ q ∧ q < h1.length
  pN : rdN h1 p 0 3 = some [vA, vB, vC]
  pC : rd h1 p 2 = some vC
  qz : h1[q]? = some (.cells zeroRes6 27 (some 0))
  ok : L.Ok h1
  em : L.m = A.length
  en : L.n = C.length
  eA : L.vA = vA
  eB : L.vB = vB
  eC : L.vC = vC
  sl : ∃ a c, L.vC = .slice a L.n c
  hp : LpAt h (.agg #[vA, vB, vC]) A B C

def Fr39 (p q : Nat) (L : Lay) (fr : Fr) : Prop := get fr 1 = .pointer (some ⟨p, 0, none⟩) ∧ get fr 2 = .pointer (some ⟨q, 0, none⟩) ∧ get fr 3 = .pointer (some ⟨L.p, 0, none⟩)

variable {h h1 H : List O} {p q : Nat} {L : Lay} {vA vB vC : Value} {A : List (List Int)} {B C : List Int}
theorem Fix39.small (F : Fix39 h h1 p q L vA vB vC A B C) (hv : Valid A B C) (hsz : sizeZ A B C ≤ 268435456) (s : Tab) (hI : TInv L.m L.n (T0Z A B C) s) : Small L s := small_of hv hsz F.em F.en s hI
/-- An empty result that a row proves. -/
theorem Fix39.emp (F : Fix39 h h1 p q L vA vB vC A B C) (hv : Valid A B C) (hsz : sizeZ A B C ≤ 268435456) {s : Tab} (hI : TInv L.m L.n (T0Z A B C) s) {r : Nat} {e : Int} (he : e = 1 ∨ e = -1) (hr : r < L.m) (hz : ∀ j, j < L.n → 0 ≤ e * s.t r j) (hneg : e * s.t r (L.n + L.m) < 0) :
    Right A B C 2 [] 0 (lowL (listF L.m fun k => e * s.t r (L.n + k))) 0 [] := by
  have hs := (F.small hv hsz s hI).2
  have h1 := F.em
  have h2 := F.en
  rw [L.M_eq, L.N_eq] at hs
  rw [h1, h2] at hI hs hneg ⊢
  rw [h2] at hz
  rw [h1] at hr
  exact emp_right hv hI (fun i j hi hj => hs i j hi (by omega)) hr he hz hneg

/-- The two stores of a result that is at hand. -/
theorem ret39 {fr : Fr} {H1 : List O} {vY : Value} {Y : List Int} (F : Fix39 h h1 p q L vA vB vC A B C) (hR : Right A B C 2 [] 0 Y 0 []) (hk : Keep h1 H) (hY : Ints H vY Y) (hag : ∀ c, c < H.length → c ≠ q → H1[c]? = H[c]?) (hl : H.length ≤ H1.length) (g2 : get fr 2 = .pointer (some ⟨q, 0, none⟩))
    (hq : H1[q]? = some (.cells [.int .i64 2, .slice none 0 0, .int .i64 0, vY, .int .i64 0, .slice none 0 0] 27 (some 0))) : Ret39 h A B C fr H1 := by
  refine ⟨q, 2, 0, 0, [], Y, [], _, vY, _, g2, hq, hR, Ints.nil, ?_, Ints.nil, fun h => absurd rfl h, ?_⟩
  · exact ints_off hY (by rw [hk.2 q F.kq.2]; exact F.qz) (emp_nonzero (right_emp hR)) hag
  · refine ⟨by have := hk.1; have := F.ext.len; omega, fun c hc => ?_⟩
    have := F.ext.len
    have := F.kq.1
    rw [hag c (by have := hk.1; omega) (by omega), hk.2 c (by omega)]
    obtain ⟨x, hx⟩ := F.ext
    rw [hx, List.getElem?_append_left hc]

include hE
theorem stC39 (hS : SumsKept E) (F : Fix39 h h1 p q L vA vB vC A B C) (hv : Valid A B C) (hsz : sizeZ A B C ≤ 268435456) (T : TabAt h1 L (tab0 (T0Z A B C)) [] 0 H) {fr : Fr} (g : Fr39 p q L fr) {Q : Post}
    (hret : ∀ fr' H', Ret39 h A B C fr' H' → Q .ret fr' ⟨H', h.length⟩)
    (hn : ∀ fr' H' s l ck, Fr39 p q L fr' → TabAt h1 L s l ck H' → MapOk L.m s.bas l ck → TInv L.m L.n (T0Z A B C) s → ZeroR L.m L.n s → Q .normal fr' ⟨H', h.length⟩) :
    DW E q39C fr ⟨H, h.length⟩ Q := by
  obtain ⟨a, cc, hC⟩ := F.sl
  have hI : TInv L.m L.n (T0Z A B C) (tab0 (T0Z A B C)) := by
    rw [F.em, F.en]; exact TInv.zero T0Z_id
  have hM : MapOk L.m (tab0 (T0Z A B C)).bas [] 0 := ⟨fun x hx => by simp at hx, fun r c h => (by cases h), List.Pairwise.nil, fun x hx => by simp at hx⟩
  have c58 := start58 hE hS T F.ok hM hI (fun i => rfl) (F.small hv hsz) hC
  obtain ⟨g1, g2, g3⟩ := g
  have hk1 := F.ext.len
  unfold q39C rb39
  simp [g3]
  refine c58.imp ?_
  rintro out ⟨H3, f3⟩ ⟨⟨s', hI', hcase⟩, hlen, hfl⟩
  simp only at hlen hfl hcase
  rcases hcase with ⟨l', ck', rfl, T3, hM3, hz⟩ | ⟨r, vY, e, rfl, he, hr, hz, hneg, hkp, hY⟩
  · obtain ⟨M, w, z1, z2, z3⟩ := wr_res (H := H3 ++ [.cells zeroRes6 27 (some 0)]) (q := H3.length) (vals := zeroRes6) get_last rfl rfl rfl
    have eM : Ext H3 M := ext_of_agree (by rw [z2]; simp) fun c hc => by rw [z3 c (by omega), List.getElem?_append_left hc]
    simp only [zeroRes6] at w
    have hk3 := T3.keep.1
    have mf : min h.length H3.length = h.length := by omega
    simp [joined_le (show h.length ≤ f3 by omega), zeroRes6, w, mf]
    exact hn _ M s' l' ck' (by simp [Fr39, g1, g2, g3]) (T3.ext eM) hM3 hI' hz
  · obtain ⟨M, w, z1, z2, z3⟩ := wr_res (H := H3 ++ [.cells zeroRes6 27 (some 0)]) (q := H3.length) (vals := [.int .i64 2, .slice none 0 0, .int .i64 0, vY, .int .i64 0, .slice none 0 0]) get_last rfl rfl (by obtain ⟨_, _, _, _, rfl, _⟩ := hY; rfl)
    have eM : Ext H3 M := ext_of_agree (by rw [z2]; simp) fun c hc => by rw [z3 c (by omega), List.getElem?_append_left hc]
    have hkq := F.kq
    have hq3 : H3[q]? = some (.cells zeroRes6 27 (some 0)) := by rw [hkp.2 q hkq.2]; exact F.qz
    have hk3 := hkp.1
    obtain ⟨M2, w2, y1, y2, y3⟩ := wr_res (vals := [.int .i64 2, .slice none 0 0, .int .i64 0, vY, .int .i64 0, .slice none 0 0]) (get_ext eM hq3) rfl rfl (by obtain ⟨_, _, _, _, rfl, _⟩ := hY; rfl)
    have rM : rdN M H3.length 0 6 = some [.int .i64 2, .slice none 0 0, .int .i64 0, vY, .int .i64 0, .slice none 0 0] := rdN6 z1 rfl
    simp only [zeroRes6] at w
    have mf : min h.length H3.length = h.length := by omega
    have mf2 : min h.length q = h.length := by omega
    simp [joined_le (show h.length ≤ f3 by omega), zeroRes6, w, mf, rM, g2, w2, mf2]
    refine hret _ M2 (ret39 F (F.emp hv hsz hI' he hr (fun j hj => by rw [hz j hj]; simp) hneg) hkp hY (fun c hc hcq => ?_) ?_ ?_ y1)
    · rw [y3 c hcq, z3 c (by omega), List.getElem?_append_left hc]
    · rw [y2, z2]; simp
    · simp [g2]
end Go.Proofs.Ytdbkhecnkhjhpaa
/- Solve's inner function: the criss-cross rule's run, and its ends. -/
namespace Go.Proofs.Ytdbkhecnkhjhpaa
open Go Go.Ai
set_option linter.unusedSimpArgs false
set_option linter.unusedVariables false
attribute [local instance] Classical.propDecidable
variable {E : Env} (hE : LpE E) {h h1 H : List O} {p q : Nat} {L : Lay} {vA vB vC : Value} {A : List (List Int)} {B C : List Int} {s : Tab} {l : List (Int × Int × Nat)} {clock : Nat}

/-- A column that proves that there is no bound. -/
def RayAt (L : Lay) (s : Tab) (k : Nat) : Prop := k < L.n ∧ (∀ i, s.bas i ≠ some k) ∧ s.t L.m k < 0 ∧ ∀ i c, s.bas i = some c → s.t i k ≤ 0

include hE
theorem stD39 (hS : SumsKept E) (F : Fix39 h h1 p q L vA vB vC A B C) (hv : Valid A B C) (hsz : sizeZ A B C ≤ 268435456) (T : TabAt h1 L s l clock H) (hM : MapOk L.m s.bas l clock) (hI : TInv L.m L.n (T0Z A B C) s) (hz : ZeroR L.m L.n s) {fr : Fr} (g : Fr39 p q L fr) {Q : Post}
    (h1n : ∀ fr' M s l ck, Fr39 p q L fr' → get fr' 8 = .bool false → TabAt h1 L s l ck M → MapOk L.m s.bas l ck → TInv L.m L.n (T0Z A B C) s → ZeroR L.m L.n s → (get fr' 7 = .int .i64 (-1) ∧ (∀ c, c < L.n → ¬ WrongZ L s c) ∨ ∃ k : Nat, get fr' 7 = .int .i64 k ∧ RayAt L s k) → Q .normal fr' ⟨M, h.length⟩)
    (h2n : ∀ fr' M b6 vY Y, Fr39 p q L fr' → get fr' 8 = .bool true → get fr' 6 = .pointer (some ⟨b6, 0, none⟩) → rdN M b6 0 6 = some [.int .i64 2, .slice none 0 0, .int .i64 0, vY, .int .i64 0, .slice none 0 0] → Right A B C 2 [] 0 Y 0 [] → Keep h1 M → Ints M vY Y → Q .normal fr' ⟨M, h.length⟩) :
    DW E q39D fr ⟨H, h.length⟩ Q := by
  obtain ⟨a, cc, hC⟩ := F.sl
  have c59 := run59 hE hS T F.ok hM hI hz (by rw [F.em, F.en]; exact T0Z_cost) (F.small hv hsz) hC
  obtain ⟨g1, g2, g3⟩ := g
  have hk1 := F.ext.len
  unfold q39D rb39
  simp [g3]
  refine c59.imp ?_
  rintro out ⟨H3, f3⟩ ⟨⟨s', hI', hz', hcase⟩, hlen, hfl⟩
  simp only at hlen hfl hcase
  rcases hcase with ⟨l', ck', rfl, T3, hM3, hw⟩ | ⟨r, vY, rfl, hr, hpos, hneg, hkp, hY⟩ | ⟨l', ck', k, rfl, T3, hM3, hk⟩
  · obtain ⟨M, w, z1, z2, z3⟩ := wr_res (H := H3 ++ [.cells zeroRes6 27 (some 0)]) (q := H3.length) (vals := zeroRes6) get_last rfl rfl rfl
    have eM : Ext H3 M := ext_of_agree (by rw [z2]; simp) fun c hc => by rw [z3 c (by omega), List.getElem?_append_left hc]
    simp only [zeroRes6] at w
    have hk3 := T3.keep.1
    have mf : min h.length H3.length = h.length := by omega
    simp [joined_le (show h.length ≤ f3 by omega), zeroRes6, w, mf]
    exact h1n _ M s' l' ck' (by simp [Fr39, g1, g2, g3]) (by simp) (T3.ext eM) hM3 hI' hz' (.inl ⟨by simp, hw⟩)
  · obtain ⟨M, w, z1, z2, z3⟩ := wr_res (H := H3 ++ [.cells zeroRes6 27 (some 0)]) (q := H3.length) (vals := [.int .i64 2, .slice none 0 0, .int .i64 0, vY, .int .i64 0, .slice none 0 0]) get_last rfl rfl (by obtain ⟨_, _, _, _, rfl, _⟩ := hY; rfl)
    have eM : Ext H3 M := ext_of_agree (by rw [z2]; simp) fun c hc => by rw [z3 c (by omega), List.getElem?_append_left hc]
    have hk3 := hkp.1
    simp only [zeroRes6] at w
    have mf : min h.length H3.length = h.length := by omega
    simp [joined_le (show h.length ≤ f3 by omega), zeroRes6, w, mf]
    exact h2n _ M H3.length vY _ (by simp [Fr39, g1, g2, g3]) (by simp) (by simp) (rdN6 z1 rfl) (F.emp hv hsz hI' (.inl rfl) hr (fun j hj => by have := hpos j hj; omega) (by omega)) (hkp.ext eM) (hY.ext eM)
  · obtain ⟨M, w, z1, z2, z3⟩ := wr_res (H := H3 ++ [.cells zeroRes6 27 (some 0)]) (q := H3.length) (vals := zeroRes6) get_last rfl rfl rfl
    have eM : Ext H3 M := ext_of_agree (by rw [z2]; simp) fun c hc => by rw [z3 c (by omega), List.getElem?_append_left hc]
    simp only [zeroRes6] at w
    have hk3 := T3.keep.1
    have mf : min h.length H3.length = h.length := by omega
    simp [joined_le (show h.length ≤ f3 by omega), zeroRes6, w, mf]
    exact h1n _ M s' l' ck' (by simp [Fr39, g1, g2, g3]) (by simp) (T3.ext eM) hM3 hI' hz' (.inr ⟨k, by simp, hk⟩)

omit hE in
theorem stE39n {fr : Fr} (g8 : get fr 8 = .bool false) {st : St} {Q : Post} (hQ : ∀ fr', (∀ i, i < 30 → get fr' i = get fr i) → Q .normal fr' st) : DW E q39E fr st Q := by
  unfold q39E rb39
  simp [g8]
  exact hQ _ fun i hi => by rw [get_put, if_neg (by omega)]
omit hE in
theorem stE39r (F : Fix39 h h1 p q L vA vB vC A B C) {M : List O} {fr : Fr} (g : Fr39 p q L fr) (g8 : get fr 8 = .bool true) {b6 : Nat} (g6 : get fr 6 = .pointer (some ⟨b6, 0, none⟩)) {vY : Value} {Y : List Int} (hr : rdN M b6 0 6 = some [.int .i64 2, .slice none 0 0, .int .i64 0, vY, .int .i64 0, .slice none 0 0])
    (hR : Right A B C 2 [] 0 Y 0 []) (hk : Keep h1 M) (hY : Ints M vY Y) {Q : Post} (hret : ∀ fr' H', Ret39 h A B C fr' H' → Q .ret fr' ⟨H', h.length⟩) : DW E q39E fr ⟨M, h.length⟩ Q := by
  obtain ⟨g1, g2, g3⟩ := g
  have hkq := F.kq
  have hqM : M[q]? = some (.cells zeroRes6 27 (some 0)) := by rw [hk.2 q hkq.2]; exact F.qz
  obtain ⟨M2, w2, y1, y2, y3⟩ := wr_res (vals := [.int .i64 2, .slice none 0 0, .int .i64 0, vY, .int .i64 0, .slice none 0 0]) hqM rfl rfl (by obtain ⟨_, _, _, _, rfl, _⟩ := hY; rfl)
  have mf2 : min h.length q = h.length := by omega
  unfold q39E rb39
  simp [g8, g6, hr, g2, w2, mf2]
  exact hret _ M2 (ret39 F hR hk hY (fun c hc hcq => y3 c hcq) (by omega) (by simp [g2]) y1)
end Go.Proofs.Ytdbkhecnkhjhpaa
/- Solve's inner function: the optimal end; the summary of solution. -/
namespace Go.Proofs.Ytdbkhecnkhjhpaa
open Go Go.Ai
set_option linter.unusedSimpArgs false
set_option linter.unusedVariables false
attribute [local instance] Classical.propDecidable
variable {E : Env} (hE : LpE E) {h h1 H : List O} {p q : Nat} {L : Lay} {vA vB vC : Value} {A : List (List Int)} {B C : List Int} {s : Tab} {l : List (Int × Int × Nat)} {clock : Nat}

/-- Calls of solution are told by a summary. -/
def Has60 (E : Env) : Prop := ∀ {h0 h : List O} {L : Lay} {s : Tab} {l : List (Int × Int × Nat)} {clock : Nat} {T0 : Nat → Nat → Int} {a : Option Addr} {cc : Nat}, TabAt h0 L s l clock h → L.Ok h0 → MapOk L.m s.bas l clock → TInv L.m L.n T0 s → Small L s → L.vC = .slice a L.n cc →
  ∃ X H60, X = lowL (listF (L.n + 1) fun j => if j < L.n then xB s L.m L.n j else s.den) ∧ Ext h H60 ∧ h.length < H60.length ∧ H60[h.length]? = some (.cells (X.map (.int .i64)) 3 (some 0)) ∧
    DR E 60 [.pointer (some ⟨L.p, 0, none⟩)] ⟨h, h.length⟩ (.ret (.tuple #[.slice (some ⟨h.length, 0, none⟩) L.n L.n, .int .i64 (nth X L.n)])) ⟨H60, h.length⟩
omit hE in
theorem LpE.with60 (hE : LpE E) : LpE (withSum E 60) := ⟨hE.F, fun f h1 h2 h3 h4 => by
  simp only [withSum]; rw [if_neg h4]; exact hE.S f h1 h2 h3 h4⟩
include hE in
theorem has60 (h60 : E.S 60 = none) : Has60 (withSum E 60) := by
  intro h0 h L s l clock T0 a cc T o hM hI hs hC
  obtain ⟨X, hX, hP⟩ := sol60 hE h60 T o hM hI hs hC
  refine ⟨X, _, hX, ((Ext.snoc _ _).trans (Ext.snoc _ _)).trans (Ext.snoc _ _), ?_, ?_, withSum_DR hP ⟨Nat.le_refl _, ?_, fun id h1 h2 => ?_⟩⟩
  · simp
  · simp
  · simp
  · simp only [List.append_assoc]; rw [List.getElem?_append_left h1]

theorem ints_take {H : List O} {b k c : Nat} {X : List Int} {el : TypeId} {own : Option Nat} (hb : H[b]? = some (.cells (X.map (.int .i64)) el own)) (hk : k ≤ X.length) (hx : ∀ i, I64 (nth X i)) (hl : X.length < 2 ^ 62) : Ints H (.slice (some ⟨b, 0, none⟩) k c) (X.take k) := by
  have hkl : (X.take k).length = k := by simp; omega
  refine ⟨some ⟨b, 0, none⟩, b, 0, c, by rw [hkl], fun _ => rfl, fun i hi => ?_, fun i => ?_, by omega⟩
  · rw [hkl] at hi
    simp only [rd, hb, Nat.zero_add, List.getElem?_map]
    rw [List.getElem?_eq_getElem (by omega)]
    simp [nth, List.getElem?_take, hi, List.getElem?_eq_getElem (show i < X.length by omega)]
  · by_cases hi : i < k
    · have : nth (X.take k) i = nth X i := by simp [nth, List.getElem?_take, hi]
      rw [this]; exact hx i
    · rw [nth_ge (by omega)]; constructor <;> omega
theorem nth_take {X : List Int} {k i : Nat} (h : i < k) : nth (X.take k) i = nth X i := by simp [nth, List.getElem?_take, h]

include hE
theorem stF39o (H6 : Has60 E) (F : Fix39 h h1 p q L vA vB vC A B C) (hv : Valid A B C) (hsz : sizeZ A B C ≤ 268435456) {M : List O} (T : TabAt h1 L s l clock M) (hM : MapOk L.m s.bas l clock) (hI : TInv L.m L.n (T0Z A B C) s) (hz : ZeroR L.m L.n s) (hw : ∀ c, c < L.n → ¬ WrongZ L s c)
    {fr : Fr} (g : Fr39 p q L fr) (g7 : get fr 7 = .int .i64 (-1)) {Q : Post} (hret : ∀ fr' H', Ret39 h A B C fr' H' → Q .ret fr' ⟨H', h.length⟩) : DW E q39F fr ⟨M, h.length⟩ Q := by
  obtain ⟨a, cc, hC⟩ := F.sl
  have hs := F.small hv hsz s hI
  obtain ⟨X, H60, hX, e60, l60, x60, d60⟩ := H6 T F.ok hM hI hs hC
  obtain ⟨g1, g2, g3⟩ := g
  have hkq := F.kq
  have hk1 := F.ext.len
  have hkM := T.keep.1
  have sm := F.ok.small
  have hqM : M[q]? = some (.cells zeroRes6 27 (some 0)) := by rw [T.keep.2 q hkq.2]; exact F.qz
  have hXl : X.length = L.n + 1 := by rw [hX, lowL_length, listF_length]
  refine opt39 hE T F.ok hs hC hkq.2 hqM hkq.1 hXl e60 l60 x60 d60 g2 g3 g7 ?_
  intro Y hY fr' H' yb k2 kq kx ky hag hl hyb
  refine hret _ _ ?_
  have hYl : Y.length = L.m + 1 := by rw [hY, lowL_length, listF_length]
  obtain ⟨d1, d2⟩ := done_ok hI hw
  obtain ⟨gx, hgx, hgx2⟩ := lowL_scale (listF (L.n + 1) fun j => if j < L.n then xB s L.m L.n j else s.den)
  obtain ⟨gy, hgy, hgy2⟩ := lowL_scale (listF (L.m + 1) fun i => if i < L.m then - s.t L.m (L.n + i) else s.den)
  rw [← hX] at hgx2
  rw [← hY] at hgy2
  have hXb : ∀ i, -268435456 ≤ nth (listF (L.n + 1) fun j => if j < L.n then xB s L.m L.n j else s.den) i ∧ nth (listF (L.n + 1) fun j => if j < L.n then xB s L.m L.n j else s.den) i ≤ 268435456 := by
    refine fun i => listF_within (M := 268435456) (by omega) (fun j hj => ?_) i
    have hd := hs.1
    by_cases c : j < L.n
    · rw [if_pos c]
      unfold xB
      split
      · rename_i i hi
        obtain ⟨b, hb2⟩ := hM.all i j (hI.rowOf_some.1 hi)
        obtain ⟨_, r, _, hr, hrm, _⟩ := hM.only _ hb2
        simp only at hr
        exact hs.2 i (L.n + L.m) (by rw [L.M_eq]; omega) (by rw [L.N_eq]; omega)
      · omega
    · rw [if_neg c]; omega
  have hYb : ∀ i, -268435456 ≤ nth (listF (L.m + 1) fun i => if i < L.m then - s.t L.m (L.n + i) else s.den) i ∧ nth (listF (L.m + 1) fun i => if i < L.m then - s.t L.m (L.n + i) else s.den) i ≤ 268435456 := by
    refine fun i => listF_within (M := 268435456) (by omega) (fun j hj => ?_) i
    have hd := hs.1
    by_cases c : j < L.m
    · rw [if_pos c]
      have := hs.2 L.m (L.n + j) (by rw [L.M_eq]; omega) (by rw [L.N_eq]; omega)
      omega
    · rw [if_neg c]; omega
  have bX := lowL_within hXb
  have bY := lowL_within hYb
  rw [← hX] at bX
  rw [← hY] at bY
  have aX : ∀ i, -268435456 ≤ nth X i ∧ nth X i ≤ 268435456 := fun i => by
    by_cases hi : i < X.length
    · exact bX i hi
    · rw [nth_ge (by omega)]; omega
  have aY : ∀ i, -268435456 ≤ nth Y i ∧ nth Y i ≤ 268435456 := fun i => by
    by_cases hi : i < Y.length
    · exact bY i hi
    · rw [nth_ge (by omega)]; omega
  have tX : (X.take L.n).length = L.n := by simp; omega
  have tY : (Y.take L.m).length = L.m := by simp; omega
  have em := F.em
  have en := F.en
  have hR : Right A B C 1 (X.take L.n) (nth X L.n) (Y.take L.m) (nth Y L.m) [] := by
    have hI2 := hI
    have hz2 := hz
    rw [em, en] at hI2 hz2
    refine opt_right hv hI2 hz2 (fun i c hb => by have := d1 i c hb; rw [em, en] at this; exact this) (fun j hj => by have := d2 j (by omega); rw [em] at this; exact this) hgx hgy (by omega) (fun i hi => ?_) ?_ (by omega) (fun i hi => ?_) ?_ ⟨fun i hi => ?_, fun i hi => ?_, fun i hi => by simp at hi, ?_, ?_⟩
    · rw [nth_take (by omega), hgx2, listF_nth (by omega), if_pos (by omega), em, en]
    · rw [hgx2, listF_nth (by omega), if_neg (by omega)]
    · rw [nth_take (by omega), hgy2, listF_nth (by omega), if_pos (by omega), em, en]
    · rw [hgy2, listF_nth (by omega), if_neg (by omega)]
    · rw [nth_take (by omega)]; have := aX i; omega
    · rw [nth_take (by omega)]; have := aY i; omega
    · have := aX L.n; exact ⟨by omega, by omega⟩
    · have := aY L.m; exact ⟨by omega, by omega⟩
  refine ⟨q, 1, nth X L.n, nth Y L.m, X.take L.n, Y.take L.m, [], _, _, _, k2, kq, hR, ints_take kx (by omega) (fun i => by have := aX i; constructor <;> omega) (by omega), ints_take ky (by omega) (fun i => by have := aY i; constructor <;> omega) (by omega), Ints.nil, fun _ => ⟨M.length, by rw [tX], by omega, .inr ⟨_, _, _, rfl, by omega⟩, .inl rfl⟩, ⟨by omega, fun c hc => ?_⟩⟩
  rw [hag c (by omega) (by omega), T.keep.2 c (by omega)]
  obtain ⟨x, hx⟩ := F.ext
  rw [hx, List.getElem?_append_left hc]
omit hE in
theorem stF39n {fr : Fr} {k : Nat} (g7 : get fr 7 = .int .i64 k) {st : St} {Q : Post} (hQ : ∀ fr', (∀ i, i < 30 → get fr' i = get fr i) → Q .normal fr' st) : DW E q39F fr st Q := by
  unfold q39F rb39
  have : ¬ (k : Int) < 0 := by omega
  simp [g7, eq_false this]
  exact hQ _ fun i hi => by rw [get_put, if_neg (by omega), get_put, if_neg (by omega)]
end Go.Proofs.Ytdbkhecnkhjhpaa
/- Solve's inner function, up to the case that there is no bound. -/
namespace Go.Proofs.Ytdbkhecnkhjhpaa
open Go Go.Ai
set_option linter.unusedSimpArgs false
set_option linter.unusedVariables false
attribute [local instance] Classical.propDecidable
variable {E : Env} (hE : LpE E) {h : List O} {vA vB vC : Value} {A : List (List Int)} {B C : List Int}

include hE
theorem pre39 (hS : SumsKept E) (H6 : Has60 E) (X : R → Fr → St → Post → Prop) (hp : LpAt h (.agg #[vA, vB, vC]) A B C) (hv : Valid A B C) (hsz : sizeZ A B C ≤ 268435456) {Q : Post} (hX : ∀ a b fr st, DW E a fr st (seqX X b Q) → X (.seq a b) fr st Q)
    (hret : ∀ fr' H', Ret39 h A B C fr' H' → Q .ret fr' ⟨H', h.length⟩)
    (hray : ∀ h1 p q L fr' M s l ck k, Fix39 h h1 p q L vA vB vC A B C → Fr39 p q L fr' → get fr' 7 = .int .i64 (k : Nat) → TabAt h1 L s l ck M → MapOk L.m s.bas l ck → TInv L.m L.n (T0Z A B C) s → ZeroR L.m L.n s → RayAt L s k → X q39T fr' ⟨M, h.length⟩ Q) :
    X rb39 [.agg #[vA, vB, vC]] ⟨h, h.length⟩ Q := by
  rw [rb39_eq]
  refine hX _ _ _ _ ?_
  rw [DW_ops]
  refine DL_boxed fun h' p hx hlen hp0 hb => ?_
  simp at hb
  refine DL_newC fun h1 q hx2 hlen2 hq hqc => ?_
  have hp1 := hp.ext (hx.trans hx2)
  obtain ⟨vA', vB', vC', eq, r0, r1, r2, rN, hA, hB, hC⟩ := boxLp (h := h) (v := .agg #[vA, vB, vC]) (hb.ext hx2) rfl hp1
  simp only [Value.agg.injEq, Array.mk.injEq, List.cons.injEq, and_true] at eq
  obtain ⟨rfl, rfl, rfl⟩ := eq
  have hpl := rd_lt (hb.ext hx2 |>.rd 2 |>.trans rfl : rd h1 p 2 = some vC)
  simp
  refine hX _ _ _ _ ?_
  show DW E (match rb39 with | .seq _ (.seq b _) => b | _ => .skip) _ _ _
  unfold rb39
  simp [rN]
  refine (tab57 hE hp1 hv).imp ?_
  rintro out ⟨H2, f2⟩ ⟨L, rfl, o, T, em, en, eA, eB, eC, sl, eF, hf2⟩
  simp only at hf2 T
  have F : Fix39 h h1 p q L vA vB vC A B C := ⟨hx.trans hx2, hpl, ⟨by omega, by omega⟩, rN, r2, hqc, o, em, en, eA, eB, eC, sl, hp⟩
  simp [joined_le (show h.length ≤ f2 by omega)]
  refine hX _ _ _ _ (stC39 hE hS F hv hsz T (by simp [Fr39]) hret ?_)
  intro fr1 M1 s1 l1 ck1 g1 T1 hM1 hI1 hz1
  simp only [seqX_normal]
  refine hX _ _ _ _ (stD39 hE hS F hv hsz T1 hM1 hI1 hz1 g1 ?_ ?_)
  · intro fr2 M2 s2 l2 ck2 g2 g8 T2 hM2 hI2 hz2 hcase
    simp only [seqX_normal]
    refine hX _ _ _ _ (stE39n g8 ?_)
    intro fr3 e3
    simp only [seqX_normal]
    have g3 : Fr39 p q L fr3 := ⟨by rw [e3 1 (by omega)]; exact g2.1, by rw [e3 2 (by omega)]; exact g2.2.1, by rw [e3 3 (by omega)]; exact g2.2.2⟩
    rcases hcase with ⟨k7, hw⟩ | ⟨k, k7, hk⟩
    · exact hX _ _ _ _ (stF39o hE H6 F hv hsz T2 hM2 hI2 hz2 hw g3 (by rw [e3 7 (by omega)]; exact k7) hret)
    · refine hX _ _ _ _ (stF39n (k := k) (by rw [e3 7 (by omega)]; exact k7) ?_)
      intro fr4 e4
      simp only [seqX_normal]
      exact hray h1 p q L fr4 M2 s2 l2 ck2 k F ⟨by rw [e4 1 (by omega)]; exact g3.1, by rw [e4 2 (by omega)]; exact g3.2.1, by rw [e4 3 (by omega)]; exact g3.2.2⟩ (by rw [e4 7 (by omega), e3 7 (by omega)]; exact k7) T2 hM2 hI2 hz2 hk
  · intro fr2 M2 b6 vY Y g2 g8 g6 hr hR hk hY
    simp only [seqX_normal]
    exact hX _ _ _ _ (stE39r F g2 g8 g6 hr hR hk hY hret)

/-- What the inner function returns. -/
def Post39 (h : List O) (A : List (List Int)) (B C : List Int) (out : Out) (st' : St) : Prop :=
  ∃ kind xd yd : Int, ∃ X Y R : List Int, ∃ vX vY vR, out = .ret (.agg #[.int .i64 kind, vX, .int .i64 xd, vY, .int .i64 yd, vR]) ∧ Right A B C kind X xd Y yd R ∧ Ints st'.h vX X ∧ Ints st'.h vY Y ∧ Ints st'.h vR R ∧
    (kind ≠ 2 → ∃ b, vX = .slice (some ⟨b, 0, none⟩) X.length X.length ∧ h.length ≤ b ∧ NewS h.length vY ∧ NewS h.length vR) ∧ Keep h st'.h ∧ st'.fl = h.length
omit hE in
theorem post39 (hv : Valid A B C) {fr : Fr} {H : List O} (hr : Ret39 h A B C fr H) : endK [.cell 2 (some 6)] ⟨h, h.length⟩ (Post39 h A B C) .ret fr ⟨H, h.length⟩ := by
  obtain ⟨q, kind, xd, yd, X, Y, R, vX, vY, vR, g2, hq, hR, hX, hY, hRR, hb, hk⟩ := hr
  rw [endK_ret]
  have hr6 : rdN H q 0 6 = some [.int .i64 kind, vX, .int .i64 xd, vY, .int .i64 yd, vR] := rdN6 hq rfl
  refine ⟨.agg #[.int .i64 kind, vX, .int .i64 xd, vY, .int .i64 yd, vR], by simp [resV, resAll, resOne, g2, hr6], ?_⟩
  have hsc : (Out.ret (Value.agg #[.int .i64 kind, vX, .int .i64 xd, vY, .int .i64 yd, vR])).scalar = false := by
    by_cases c : kind = 2
    · subst c
      obtain ⟨i, hi, _⟩ := emp_nonzero (right_emp hR)
      obtain ⟨aY, bY, oY, cY, rfl, e2, _⟩ := hY
      obtain rfl := e2 (by omega)
      simp [Out.scalar, scalar, flat1, flat]
    · obtain ⟨b, rfl, _⟩ := hb c
      simp [Out.scalar, scalar, flat1, flat]
  unfold back
  rw [hsc, Bool.false_and, if_neg (by decide)]
  exact ⟨kind, xd, yd, X, Y, R, vX, vY, vR, rfl, hR, hX, hY, hRR, hb, hk, rfl⟩
end Go.Proofs.Ytdbkhecnkhjhpaa
/- Solve's inner function without costs; the walk that makes the ray. -/
namespace Go.Proofs.Ytdbkhecnkhjhpaa
open Go Go.Ai
set_option linter.unusedSimpArgs false
set_option linter.unusedVariables false
attribute [local instance] Classical.propDecidable
variable {E : Env} (hE : LpE E) {h h1 M : List O} {p q : Nat} {L : Lay} {vA vB vC : Value} {A : List (List Int)} {B C : List Int} {s : Tab} {l : List (Int × Int × Nat)} {clock : Nat}

theorem seqX_DW {b : R} {Q : Post} : seqX (DW E) b Q = seqK E b Q := by
  funext e fr st; cases e <;> rfl
theorem seqX_PW {b : R} {Q : Post} : seqX (PW E) b Q = seqP E b Q := by
  funext e fr st; cases e <;> rfl
theorem noRay (hv : Valid A B C) (h0 : ∀ j, j < C.length → nth C j = 0) (hm : L.m = A.length) (hn : L.n = C.length) (hI : TInv L.m L.n (T0Z A B C) s) (hz : ZeroR L.m L.n s) {k : Nat} (hk : RayAt L s k) : False := by
  obtain ⟨k1, k2, k3, k4⟩ := hk
  rw [hm, hn] at hI hz
  rw [hn] at k1
  rw [hm] at k3
  have := (hI.isRay T0Z_cost hz k1 k2 k4 k3).2.2
  rw [sumN_zero fun j hj => by simp only [T0Z]; rw [if_neg (by omega), if_pos hj, h0 j hj, Int.zero_mul]] at this
  omega
include hE
theorem zero39 (hS : SumsKept E) (H6 : Has60 E) (h39 : E.S 39 = none) (hp : LpAt h (.agg #[vA, vB, vC]) A B C) (hv : Valid A B C) (hsz : sizeZ A B C ≤ 268435456) (h0 : ∀ j, j < C.length → nth C j = 0) :
    DC E 39 [.agg #[vA, vB, vC]] ⟨h, h.length⟩ (Post39 h A B C) := by
  refine (DC_fn (body := rb39) (by rw [hE.F]; rfl) h39).2 ?_
  refine pre39 hE hS H6 (DW E) hp hv hsz (fun a b fr st hh => ?_) (fun fr' H' hr => post39 hv hr) ?_
  · rw [seqX_DW] at hh; exact DW_seq.2 hh
  · intro h1 p q L fr' M s l ck k F g g7 T hM hI hz hk
    exact (noRay hv h0 F.em F.en hI hz hk).elim

def t39a : R := match q39T with | .seq a _ => a | _ => .skip
def t39b : R := match q39T with | .seq _ (.seq b _) => b | _ => .skip
def t39c : R := match q39T with | .seq _ (.seq _ (.seq (.seq c _) _)) => c | _ => .skip
def t39L : R := match q39T with | .seq _ (.seq _ (.seq (.seq _ (.block _ (.loop (.seq _ (.seq _ (.block _ b)))))) _)) => b | _ => .skip
def t39E : R := match q39T with | .seq _ (.seq _ (.seq _ e)) => e | _ => .skip
omit hE in
theorem q39T_eq : q39T = .seq t39a (.seq t39b (.seq (.seq t39c (.block 2 (.loop (.seq (.ops false [⟨some 128, none, .next (.tmp 127), 0⟩, ⟨some 129, none, .extract (.tmp 128) 0, 0⟩]) (.seq (.cond (.tmp 129) .skip (.exit 2)) (.block 3 t39L)))))) t39E)) := rfl

/-- Memory behind the walk: the ray, and a block that is known no more. -/
def M39 (M : List O) (n : Nat) (f : Nat → Int) : List O := (M ++ [.cells (cellsF n f) 3 (some 0)]) ++ [.dead]
theorem way39 (F : Fix39 h h1 p q L vA vB vC A B C) (hv : Valid A B C) (hsz : sizeZ A B C ≤ 268435456) (T : TabAt h1 L s l clock M) (hM : MapOk L.m s.bas l clock) (hI : TInv L.m L.n (T0Z A B C) s) (hz : ZeroR L.m L.n s) {k : Nat} (hk : RayAt L s k)
    {fr : Fr} (g : Fr39 p q L fr) (g7 : get fr 7 = .int .i64 k) {Q : Post}
    (hQ : ∀ fr', Fr39 p q L fr' → get fr' 13 = .slice (some ⟨M.length, 0, none⟩) L.n L.n → PW E t39E fr' ⟨M39 M L.n (wayB s L.m k), h.length⟩ Q) : PW E q39T fr ⟨M, h.length⟩ Q := by
  obtain ⟨a, cc, hC⟩ := F.sl
  have hs := F.small hv hsz s hI
  obtain ⟨g1, g2, g3⟩ := g
  obtain ⟨k1, k2, k3, k4⟩ := hk
  have sm := F.ok.small
  have hk1 := F.ext.len
  have hkM := T.keep.1
  have l62 : ∀ h, DR E 62 [.agg #[L.vA, L.vB, .slice a L.n cc]] ⟨h, h.length⟩ (.ret (.int .i64 L.n)) ⟨h, h.length⟩ := fun h => cols62 hE
  have rLp := T.rdLp
  rw [hC] at rLp
  rw [q39T_eq]
  refine PW_seqD ?_
  show DW E (match q39T with | .seq a _ => a | _ => .skip) _ _ _
  unfold q39T rb39
  have c1 : (0:Int) ≤ L.n ∧ (L.n : Int) * 8 ≤ 140737488355328 ∧ (L.n : Int) < 4611686018427387904 := by omega
  have ez : rep L.n [Value.int .i64 0] = cellsF L.n (fun _ => 0) := by
    have e1 : ∀ k, rep k [Value.int .i64 0] = List.replicate k (.int .i64 0) := fun k => by
      induction k with
      | zero => rfl
      | succ k ih => simp [rep, ih, List.replicate_succ]
    rw [e1]
    simp [cellsF, List.map_const']
  simp [g3, rLp, DC_of (l62 _), c1.2.1, c1.2.2, ez]
  have rDen := rd_append T.rdDen [.cells (cellsF L.n (fun _ => 0)) 3 (some 0)]
  have w := wrN_last (h := M) (N := L.n) (j := k) (f := fun _ => 0) (el := 3) (sz := 0) (x := s.den) k1
  have ew : cellsF L.n (fun j => if j = k then s.den else 0) = cellsF L.n (seenF l [] (wayB s L.m k) fun j => if j = k then s.den else 0) := cellsF_congr fun j _ => (seenF_nil (l := l) (v := wayB s L.m k) (d := fun j => if j = k then s.den else 0) j).symm
  rw [ew] at w
  have d1 : (k : Int) < L.n := by omega
  have mf : min h.length M.length = h.length := by omega
  refine PW_seqD ?_
  show DW E (match q39T with | .seq _ (.seq b _) => b | _ => .skip) _ _ _
  unfold q39T rb39
  simp [g3, g7, rDen, w, eq_true d1, mf]
  refine PW_seq (PW_seqD ?_)
  show DW E (match q39T with | .seq _ (.seq _ (.seq (.seq c _) _)) => c | _ => .skip) _ _ _
  unfold q39T rb39
  have rMap1 := rd_append T.rdMap [.cells (cellsF L.n (seenF l [] (wayB s L.m k) fun j => if j = k then s.den else 0)) 3 (some 0)]
  have mMap1 : (M ++ [O.cells (cellsF L.n (seenF l [] (wayB s L.m k) fun j => if j = k then s.den else 0)) 3 (some 0)])[L.bm]? = some (.map (l.map entZ) clock) := get_ext (Ext.snoc _ _) T.map
  have eI := rangeVS_ent (f := h.length) mMap1
  simp [g3, rMap1, eI, -List.append_assoc]
  refine PW_walk (l := l) (bm := L.bm) (r := M.length + 1) (clock := clock) (hM.keys.imp fun h => h.2) (fun seen fr H => Fr39 p q L fr ∧ get fr 7 = .int .i64 k ∧ get fr 13 = .slice (some ⟨M.length, 0, none⟩) L.n L.n ∧ get fr 127 = .pointer (some ⟨M.length + 1, 0, none⟩) ∧
    H = (M ++ [.cells (cellsF L.n (seenF l seen (wayB s L.m k) fun j => if j = k then s.den else 0)) 3 (some 0)]) ++ [.iter (some L.bm) clock seen clock]) (by decide) (by omega) ?_ ?_ ?_ ⟨by simp [Fr39, g1, g2, g3], by simp [g7], by simp, by simp, rfl⟩
  · rintro seen fr H ⟨gg, g7, g13, g127, rfl⟩
    refine ⟨g127, by simp, ?_⟩
    exact get_ext ((Ext.snoc _ _).trans (Ext.snoc _ _)) T.map
  · rintro seen fr H x ⟨⟨g1, g2, g3⟩, g7, g13, g127, rfl⟩ hx hxs
    obtain ⟨c, r, hc, hr, hrm, hbas⟩ := hM.only x hx
    have hcn := (hI.basic r c hbas).1
    obtain ⟨x1, x2, b⟩ := x
    simp only at hc hr hxs
    subst hc hr
    have hck : c ≠ k := fun e => by subst e; exact k2 r hbas
    generalize hf : seenF l seen (wayB s L.m k) (fun j => if j = k then s.den else 0) = f
    have es : ((M ++ [O.cells (cellsF L.n f) 3 (some 0)]) ++ [O.iter (some L.bm) clock seen clock]).set (M.length + 1) (.iter (some L.bm) clock (seen ++ [b]) clock) = (M ++ [O.cells (cellsF L.n f) 3 (some 0)]) ++ [O.iter (some L.bm) clock (seen ++ [b]) clock] := by
      have := set_last (l := M ++ [O.cells (cellsF L.n f) 3 (some 0)]) (a := O.iter (some L.bm) clock seen clock) (b := .iter (some L.bm) clock (seen ++ [b]) clock)
      rw [List.length_append, List.length_singleton] at this
      exact this
    rw [es]
    have eM : Ext M ((M ++ [O.cells (cellsF L.n f) 3 (some 0)]) ++ [O.iter (some L.bm) clock (seen ++ [b]) clock]) := (Ext.snoc _ _).trans (Ext.snoc _ _)
    have TM := T.ext eM
    have hrM : r < L.M := by rw [L.M_eq]; omega
    have rR := TM.rdRows
    have rH := TM.rdHdr hrM
    have rE := TM.rdRow (i := r) (j := k) hrM (by rw [L.N_eq]; omega)
    have hb := hs.2 r k hrM (by rw [L.N_eq]; omega)
    have eE := entryVS_ent (h := (M ++ [O.cells (cellsF L.n f) 3 (some 0)]) ++ [O.iter (some L.bm) clock (seen ++ [b]) clock]) (f := h.length) (r := M.length + 1) (b := L.bm) (since := clock) (clock := clock) (seen := seen ++ [b]) (x := ((c : Int), (r : Int), b)) (by simp) TM.map (by simp) (hM.keys.imp fun h => h.2) hx
    have w := wrN_mid (h := M) (N := L.n) (f := f) (el := 3) (sz := 0) (j := c) (x := - s.t r k) (o := O.iter (some L.bm) clock (seen ++ [b]) clock) hcn
    show DW E (match q39T with | .seq _ (.seq _ (.seq (.seq _ (.block _ (.loop (.seq _ (.seq _ (.block _ b)))))) _)) => b | _ => .skip) _ _ _
    unfold q39T rb39
    generalize (M ++ [O.cells (cellsF L.n f) 3 (some 0)]) ++ [O.iter (some L.bm) clock (seen ++ [b]) clock] = M1 at eM TM rR rH rE eE w ⊢
    have d2 : (c : Int) < L.n := by omega
    have d3 : (k : Int) < L.N := by rw [L.N_eq]; omega
    have e2 : IntKind.i64.wrap (- s.t r k) = - s.t r k := by rw [w64_id] <;> omega
    simp [g1, g2, g3, g7, g13, g127, eE, rR, rH, rE, hrM, eq_true d2, eq_true d3, e2, w, Fr39, mf, -List.append_assoc]
    rw [← hf]
    refine cellsF_congr fun j hj => ?_
    rw [seenF_snoc hx rfl hM.keys]
    by_cases hjc : j = c
    · subst hjc; rw [if_pos rfl, if_pos rfl, wayB_in hI hbas k2]
    · rw [if_neg hjc, if_neg hjc]
  · rintro seen fr H ⟨gg, g7, g13, g127, rfl⟩ hall
    have ec : cellsF L.n (seenF l seen (wayB s L.m k) fun j => if j = k then s.den else 0) = cellsF L.n (wayB s L.m k) := by
      refine cellsF_congr fun j hj => ?_
      unfold seenF
      split
      · rfl
      · rename_i hno
        show (if j = k then s.den else 0) = _
        by_cases hjk : j = k
        · subst hjk; rw [if_pos rfl, wayB_ray]
        · rw [if_neg hjk, wayB_out hI (fun i hb => ?_) hjk]
          obtain ⟨b, hb2⟩ := hM.all i j hb
          exact hno ⟨_, hb2, rfl, hall _ hb2⟩
    rw [ec]
    have es : ((M ++ [O.cells (cellsF L.n (wayB s L.m k)) 3 (some 0)]) ++ [O.iter (some L.bm) clock seen clock]).set (M.length + 1) .dead = M39 M L.n (wayB s L.m k) := by
      have := set_last (l := M ++ [O.cells (cellsF L.n (wayB s L.m k)) 3 (some 0)]) (a := O.iter (some L.bm) clock seen clock) (b := .dead)
      rw [List.length_append, List.length_singleton] at this
      exact this
    rw [es]
    obtain ⟨e1, e2, e3⟩ := gg
    exact hQ _ (by simp [Fr39, e1, e2, e3]) (by simp [g13])
end Go.Proofs.Ytdbkhecnkhjhpaa
/- Solve's inner function behind the ray: a solution without costs. -/
namespace Go.Proofs.Ytdbkhecnkhjhpaa
open Go Go.Ai
set_option linter.unusedSimpArgs false
set_option linter.unusedVariables false
attribute [local instance] Classical.propDecidable
variable {E : Env} (hE : LpE E) {h h1 M : List O} {p q : Nat} {L : Lay} {vA vB vC : Value} {A : List (List Int)} {B C : List Int} {s : Tab} {l : List (Int × Int × Nat)} {clock : Nat}

theorem setL_all {cs vals : List Value} (h : cs.length = vals.length) : setL cs 0 vals = vals := by
  have key : ∀ (vals : List Value) (pre cs : List Value), cs.length = vals.length → setL (pre ++ cs) pre.length vals = pre ++ vals := by
    intro vals
    induction vals with
    | nil => intro pre cs h; have : cs = [] := List.length_eq_zero_iff.1 h; subst this; rfl
    | cons v vals ih =>
      intro pre cs h
      match cs, h with
      | c :: cs, h =>
        simp only [setL]
        have e1 : (pre ++ c :: cs).set pre.length v = (pre ++ [v]) ++ cs := by simp
        have := ih (pre ++ [v]) cs (by simpa using h)
        rw [e1]
        rw [List.length_append, List.length_singleton] at this
        rw [this]; simp
  simpa using key vals [] cs h
theorem wr_all {H : List O} {q : Nat} {cs vals : List Value} {el : TypeId} (hq : H[q]? = some (.cells cs el (some 0))) (hl : cs.length = vals.length) (h1 : vals.all one1 = true) :
    ∃ H', wrN H q 0 vals = some H' ∧ H'[q]? = some (.cells vals el (some 0)) ∧ H'.length = H.length ∧ ∀ c, c ≠ q → H'[c]? = H[c]? := by
  have hlt := (List.getElem?_eq_some_iff.1 hq).1
  refine ⟨H.set q (.cells vals el (some 0)), ?_, by simp [hlt], by simp, fun c hc => by rw [List.getElem?_set_ne (fun e => hc e.symm)]⟩
  simp only [wrN, hq]
  rw [if_pos ⟨by omega, h1⟩, setL_all hl]
theorem ints_at {H H' : List O} {b n c q : Nat} {X : List Int} (hv : Ints H (.slice (some ⟨b, 0, none⟩) n c) X) (hbq : b ≠ q) (hag : ∀ c, c < H.length → c ≠ q → H'[c]? = H[c]?) : Ints H' (.slice (some ⟨b, 0, none⟩) n c) X := by
  obtain ⟨a, b', o, c', e1, h2, h3, h4, h5⟩ := hv
  simp only [Value.slice.injEq] at e1
  obtain ⟨rfl, rfl, rfl⟩ := e1
  refine ⟨_, b', o, c, rfl, h2, fun j hj => ?_, h4, h5⟩
  have e := h2 (by omega)
  simp only [Option.some.injEq, Addr.mk.injEq] at e
  have h1 := h3 j hj
  have hb := rd_lt h1
  simp only [rd] at h1 ⊢
  rw [hag b' hb (by omega)]; exact h1
theorem Keep.mat {h0 h : List O} (k : Keep h0 h) {v : Value} {A : List (List Int)} (hv : Mat h0 v A) : Mat h v A := by
  obtain ⟨a, b, o, c, vs, h1, h2, h3, h4⟩ := hv
  exact ⟨a, b, o, c, vs, h1, h2, fun i hi => ⟨k.rd (h3 i hi).1, k.ints (h3 i hi).2⟩, h4⟩
theorem sc39 {H : List O} {vX vY vR : Value} {kind xd yd : Int} {X Y R : List Int} (hR : Right A B C kind X xd Y yd R) (hY : Ints H vY Y) (hb : kind ≠ 2 → ∃ b, vX = .slice (some ⟨b, 0, none⟩) X.length X.length ∧ h.length ≤ b ∧ NewS h.length vY ∧ NewS h.length vR) :
    (Out.ret (Value.agg #[.int .i64 kind, vX, .int .i64 xd, vY, .int .i64 yd, vR])).scalar = false := by
  by_cases c : kind = 2
  · subst c
    obtain ⟨i, hi, _⟩ := emp_nonzero (right_emp hR)
    obtain ⟨aY, bY, oY, cY, rfl, e2, _⟩ := hY
    obtain rfl := e2 (by omega)
    simp [Out.scalar, scalar, flat1, flat]
  · obtain ⟨b, rfl, _⟩ := hb c
    simp [Out.scalar, scalar, flat1, flat]
theorem exact39 {fr : Fr} {H : List O} {f : Nat} {vals : List Value} (g2 : get fr 2 = .pointer (some ⟨q, 0, none⟩)) (hq : H[q]? = some (.cells vals 27 (some 0))) (hl : vals.length = 6) (hsc : (Out.ret (Value.agg vals.toArray)).scalar = false) :
    endK [.cell 2 (some 6)] ⟨h, h.length⟩ (fun o' s' => o' = .ret (.agg vals.toArray) ∧ s' = ⟨H, f⟩) .ret fr ⟨H, f⟩ := by
  rw [endK_ret]
  have hr6 : rdN H q 0 6 = some vals := rdN6 hq hl
  refine ⟨.agg vals.toArray, by simp [resV, resAll, resOne, g2, hr6], ?_⟩
  unfold back
  rw [hsc, Bool.false_and, if_neg (by decide)]
  exact ⟨rfl, rfl⟩
theorem allZ_pos (xs : List Int) : 1 ≤ allZ xs := by unfold allZ; omega
theorem allZ_zero {xs : List Int} (h : ∀ i, i < xs.length → nth xs i = 0) : allZ xs = 1 := by
  have : ∀ n, n ≤ xs.length → absS xs n = 0 := by
    intro n
    induction n with
    | zero => intro _; rfl
    | succ n ih =>
      intro hn
      have h1 := ih (by omega)
      simp only [absS, nsum] at h1 ⊢
      rw [h1, h n (by omega)]; rfl
  unfold allZ; rw [this _ (Nat.le_refl _)]; rfl
theorem szN_mono {C' : List Int} (hc : allZ C' ≤ allZ C) : ∀ i, szN A B C' i ≤ szN A B C i
  | 0 => hc
  | i + 1 => by
    have := szN_mono hc i
    simp only [szN]
    exact Nat.mul_le_mul_right _ (by omega)

def t39F : R := match t39E with | .seq _ (.seq _ (.seq _ (.seq _ f))) => f | _ => .skip
def t39h : R := match t39E with | .seq a _ => a | _ => .skip
def t39i : R := match t39E with | .seq _ (.seq a _) => a | _ => .skip
def t39j : R := match t39E with | .seq _ (.seq _ (.seq a _)) => a | _ => .skip
def t39k : R := match t39E with | .seq _ (.seq _ (.seq _ (.seq a _))) => a | _ => .skip
theorem t39E_eq : t39E = .seq t39h (.seq t39i (.seq t39j (.seq t39k t39F))) := rfl
theorem ints_none {H H' : List O} {v : Value} {X : List Int} (hv : Ints H v X) (h0 : X.length = 0) : Ints H' v X := by
  obtain ⟨a, b, o, c, rfl, h2, h3, h4, h5⟩ := hv
  exact ⟨a, b, o, c, rfl, h2, fun j hj => by omega, h4, h5⟩

include hE
theorem rest39 (hS : SumsKept E) (H6 : Has60 E) (h39 : E.S 39 = none) (F : Fix39 h h1 p q L vA vB vC A B C) (hv : Valid A B C) (hsz : sizeZ A B C ≤ 268435456) (T : TabAt h1 L s l clock M) (hM : MapOk L.m s.bas l clock) (hI : TInv L.m L.n (T0Z A B C) s) (hz : ZeroR L.m L.n s) {k : Nat} (hk : RayAt L s k) :
    ∃ o s', Post39 h A B C o s' ∧ ∀ fr', Fr39 p q L fr' → get fr' 13 = .slice (some ⟨M.length, 0, none⟩) L.n L.n → DW E t39E fr' ⟨M39 M L.n (wayB s L.m k), h.length⟩ (endK [.cell 2 (some 6)] ⟨h, h.length⟩ fun o2 s2 => o2 = o ∧ s2 = s') := by
  obtain ⟨a, cc, hC⟩ := F.sl
  have hs := F.small hv hsz s hI
  have hk0 := hk
  obtain ⟨k1, k2, k3, k4⟩ := hk
  have sm := F.ok.small
  have hkq := F.kq
  have hkp := F.kp
  have hk1 := F.ext.len
  have hkM := T.keep.1
  have em := F.em
  have en := F.en
  have eC := F.eC
  rw [hC] at eC
  -- the ray in lowest terms
  have hWb : ∀ i, -268435456 ≤ nth (listF L.n (wayB s L.m k)) i ∧ nth (listF L.n (wayB s L.m k)) i ≤ 268435456 := by
    refine fun i => listF_within (M := 268435456) (by omega) (fun j hj => ?_) i
    have hd := hs.1
    unfold wayB
    by_cases c : j = k
    · rw [if_pos c]; omega
    · rw [if_neg c]
      split
      · rename_i i hi
        obtain ⟨b, hb2⟩ := hM.all i j (hI.rowOf_some.1 hi)
        obtain ⟨_, r, _, hr, hrm, _⟩ := hM.only _ hb2
        simp only at hr
        have := hs.2 i k (by rw [L.M_eq]; omega) (by rw [L.N_eq]; omega)
        omega
      · omega
  obtain ⟨gw, hgw, hgw2⟩ := lowL_scale (listF L.n (wayB s L.m k))
  have bW := lowL_within hWb
  have lW0 : (listF L.n (wayB s L.m k)).length = L.n := listF_length _ _
  have nW : ∀ j, j < L.n → gw * nth (lowL (listF L.n (wayB s L.m k))) j = wayB s L.m k j := fun j hj => by rw [hgw2, listF_nth hj]
  have lW : (lowL (listF L.n (wayB s L.m k))).length = L.n := by rw [lowL_length, lW0]
  have e0 : M39 M L.n (wayB s L.m k) = (M ++ [.cells ((listF L.n (wayB s L.m k)).map (.int .i64)) 3 (some 0)]) ++ [.dead] := by rw [M39, ← cellsF_list]
  rw [e0]
  generalize listF L.n (wayB s L.m k) = W0 at hWb bW lW0 nW lW
  have lw := lowest29 hE (H := ((M ++ [.cells (W0.map (.int .i64)) 3 (some 0)]) ++ [.dead]) ++ [.cells [.slice (some ⟨M.length, 0, none⟩) L.n L.n] 23 (some 0)]) (bL := M.length + 2) (oL := 0) (cL := 1) (b := M.length) (n := L.n) (c := L.n) (s := 0) (el := 3) (xs := W0) (by simp [rd, lW0]) (by simp) (by omega) (by omega) (fun j => by have := hWb j; omega)
  generalize lowL W0 = W at bW nW lW lw
  have hset : (((M ++ [O.cells (W0.map (.int .i64)) 3 (some 0)]) ++ [O.dead]) ++ [O.cells [Value.slice (some ⟨M.length, 0, none⟩) L.n L.n] 23 (some 0)]).set M.length (.cells (W.map (.int .i64)) 3 (some 0)) =
      ((M ++ [O.cells (W.map (.int .i64)) 3 (some 0)]) ++ [O.dead]) ++ [O.cells [Value.slice (some ⟨M.length, 0, none⟩) L.n L.n] 23 (some 0)] := by
    rw [List.set_append_left _ _ (by simp), List.set_append_left _ _ (by simp), set_last]
  rw [hset] at lw
  have hl2 : (((M ++ [O.cells (W0.map (.int .i64)) 3 (some 0)]) ++ [O.dead]) ++ [O.cells [Value.slice (some ⟨M.length, 0, none⟩) L.n L.n] 23 (some 0)]).length = M.length + 2 + 1 := by simp
  rw [hl2] at lw
  have hl1 : ((M ++ [O.cells (W0.map (.int .i64)) 3 (some 0)]) ++ [O.dead]).length = M.length + 2 := by simp
  obtain ⟨M3, hM3⟩ : ∃ M3, M3 = ((M ++ [O.cells (W.map (.int .i64)) 3 (some 0)]) ++ [O.dead]) ++ [O.cells [Value.slice (some ⟨M.length, 0, none⟩) L.n L.n] 23 (some 0)] := ⟨_, rfl⟩
  rw [← hM3] at lw
  have a3 : ∀ c, c < M.length → M3[c]? = M[c]? := fun c hc => by rw [hM3, List.append_assoc, List.append_assoc, List.getElem?_append_left hc]
  have w3 : M3[M.length]? = some (.cells (W.map (.int .i64)) 3 (some 0)) := by rw [hM3]; simp
  have l3 : M3.length = M.length + 3 := by rw [hM3]; simp
  have pM : ∀ {H : List O}, (∀ c, c < M.length → H[c]? = M[c]?) → rdN H p 0 3 = some [vA, vB, vC] ∧ rd H p 2 = some vC := fun {H} ha => by
    have e : H[p]? = h1[p]? := by rw [ha p (by omega), T.keep.2 p hkp]
    have n1 := F.pN
    have n2 := F.pC
    simp only [rdN, rd] at n1 n2 ⊢
    rw [e]; exact ⟨n1, n2⟩
  have hone : [vA, vB, vC].all one1 = true := by
    obtain ⟨xA, xB, xC, e, ⟨_, _, _, _, _, rfl, _⟩, ⟨_, _, _, _, rfl, _⟩, ⟨_, _, _, _, rfl, _⟩⟩ := F.hp.out
    simp only [Value.agg.injEq, Array.mk.injEq, List.cons.injEq, and_true] at e
    obtain ⟨rfl, rfl, rfl⟩ := e
    rfl
  obtain ⟨M4, w4, z4, l4, a4⟩ := wr_all (H := M3 ++ [.cells [.slice none 0 0, .slice none 0 0, .slice none 0 0] 25 (some 0)]) (q := M3.length) (cs := [.slice none 0 0, .slice none 0 0, .slice none 0 0]) (vals := [vA, vB, vC]) get_last rfl hone
  have l4' : M4.length = M3.length + 1 := by rw [l4]; simp
  have a4' : ∀ c, c < M3.length → M4[c]? = M3[c]? := fun c hc => by rw [a4 c (by omega), List.getElem?_append_left hc]
  have a4M : ∀ c, c < M.length → M4[c]? = M[c]? := fun c hc => by rw [a4' c (by omega), a3 c hc]
  obtain ⟨M5, w5, z5, l5, a5⟩ := wr_cell (H := M4 ++ [.cells (cellsF L.n fun _ => 0) 3 (some 0)]) (b := M3.length) (j := 2) (x := .slice (some ⟨M4.length, 0, none⟩) L.n L.n) (by rw [List.getElem?_append_left (by omega)]; exact z4) rfl (by simp) rfl
  simp only [setL, List.set] at z5
  have l5' : M5.length = M4.length + 1 := by rw [l5]; simp
  have a5' : ∀ c, c < M4.length → c ≠ M3.length → M5[c]? = M4[c]? := fun c hc hn => by rw [a5 c hn, List.getElem?_append_left hc]
  have a5M : ∀ c, c < M.length → M5[c]? = M[c]? := fun c hc => by rw [a5' c (by omega) (by omega), a4M c hc]
  have c5 : M5[M4.length]? = some (.cells (cellsF L.n fun _ => 0) 3 (some 0)) := by rw [a5 _ (by omega)]; exact get_last
  have K5 : Keep h M5 := ⟨by omega, fun c hc => by
    rw [a5M c (by omega), T.keep.2 c (by omega)]
    obtain ⟨x, hx⟩ := F.ext
    rw [hx, List.getElem?_append_left hc]⟩
  -- the program without costs
  obtain ⟨v1, v2, v3, v4, v5, v6, v7⟩ := hv
  have hv : Valid A B C := ⟨v1, v2, v3, v4, v5, v6, v7⟩
  have n0 : ∀ j, nth (List.replicate L.n (0:Int)) j = 0 := fun j => by
    simp only [nth, List.getD, List.getElem?_replicate]
    split <;> rfl
  have hlp : LpAt M5 (.agg #[vA, vB, .slice (some ⟨M4.length, 0, none⟩) L.n L.n]) A B (List.replicate L.n 0) := by
    obtain ⟨xA, xB, xC, e, hmA, hmB, hmC⟩ := F.hp.out
    simp only [Value.agg.injEq, Array.mk.injEq, List.cons.injEq, and_true] at e
    obtain ⟨rfl, rfl, rfl⟩ := e
    refine ⟨_, _, _, rfl, K5.mat hmA, K5.ints hmB, ?_⟩
    refine ⟨_, M4.length, 0, L.n, by simp, fun _ => rfl, fun j hj => ?_, fun j => by rw [n0]; constructor <;> omega, by simp; omega⟩
    simp only [List.length_replicate] at hj
    simp only [rd, c5, Nat.zero_add]
    rw [cellsF_get hj, n0]
  have hv0 : Valid A B (List.replicate L.n 0) := ⟨v1, v2, by simp; omega, by simp; omega, v5, fun i hi => by rw [n0]; omega, fun i hi => by simp only [List.length_replicate]; rw [en]; exact v7 i hi⟩
  have hsz0 : sizeZ A B (List.replicate L.n 0) ≤ 268435456 := by
    have e1 := allZ_zero (xs := List.replicate L.n (0:Int)) fun i _ => n0 i
    have e2 := allZ_pos C
    have := szN_mono (A := A) (B := B) (C := C) (C' := List.replicate L.n (0:Int)) (by omega) A.length
    simp only [sizeZ] at hsz ⊢
    omega
  obtain ⟨o5, s5, d5, P5⟩ := zero39 hE hS H6 h39 hlp hv0 hsz0 (fun j _ => n0 j)
  obtain ⟨kind, xd, yd, X, Y, R, vX, vY, vR, rfl, hR, hX, hY, hRR, hb, hkp5, hf5⟩ := P5
  obtain ⟨H5, f5⟩ := s5
  simp only at hX hY hRR hkp5 hf5
  have hone6 : [Value.int .i64 kind, vX, .int .i64 xd, vY, .int .i64 yd, vR].all one1 = true := by
    obtain ⟨_, _, _, _, rfl, _⟩ := hX
    obtain ⟨_, _, _, _, rfl, _⟩ := hY
    obtain ⟨_, _, _, _, rfl, _⟩ := hRR
    rfl
  obtain ⟨M6, w6, z6, l6, a6⟩ := wr_res (H := H5 ++ [.cells zeroRes6 27 (some 0)]) (q := H5.length) (vals := [.int .i64 kind, vX, .int .i64 xd, vY, .int .i64 yd, vR]) get_last rfl rfl hone6
  have l6' : M6.length = H5.length + 1 := by rw [l6]; simp
  have a6' : ∀ c, c < H5.length → M6[c]? = H5[c]? := fun c hc => by rw [a6 c (by omega), List.getElem?_append_left hc]
  have k5 := hkp5.1
  have a6M : ∀ c, c < M.length → M6[c]? = M[c]? := fun c hc => by rw [a6' c (by omega), hkp5.2 c (by omega), a5M c hc]
  have q6 : M6[q]? = some (.cells zeroRes6 27 (some 0)) := by rw [a6M q (by omega), T.keep.2 q hkq.2]; exact F.qz
  have rM6 : rdN M6 H5.length 0 6 = some [.int .i64 kind, vX, .int .i64 xd, vY, .int .i64 yd, vR] := rdN6 z6 rfl
  have rk : rd M6 H5.length 0 = some (.int .i64 kind) := by simp [rd, z6]
  have rX : rd M6 H5.length 1 = some vX := by simp [rd, z6]
  have rxd : rd M6 H5.length 2 = some (.int .i64 xd) := by simp [rd, z6]
  have w6' := w6
  simp only [zeroRes6] at w6'
  have r5 : rdN M5 M3.length 0 3 = some [vA, vB, .slice (some ⟨M4.length, 0, none⟩) L.n L.n] := by simp [rdN, z5]
  have pM3 := pM a3
  have pM4 := pM a4M
  have c1 : (L.n : Int) * 8 ≤ 140737488355328 := by omega
  have c2 : (L.n : Int) < 4611686018427387904 := by omega
  have ez : rep L.n [Value.int .i64 0] = cellsF L.n (fun _ => 0) := by
    have e1 : ∀ k, rep k [Value.int .i64 0] = List.replicate k (.int .i64 0) := fun k => by
      induction k with
      | zero => rfl
      | succ k ih => simp [rep, ih, List.replicate_succ]
    rw [e1]
    simp [cellsF, List.map_const']
  have common : ∀ (Qf : Post) fr', Fr39 p q L fr' → get fr' 13 = .slice (some ⟨M.length, 0, none⟩) L.n L.n → (∀ fr'', get fr'' 2 = .pointer (some ⟨q, 0, none⟩) → get fr'' 13 = .slice (some ⟨M.length, 0, none⟩) L.n L.n → get fr'' 17 = .pointer (some ⟨H5.length, 0, none⟩) → DW E t39F fr'' ⟨M6, h.length⟩ Qf) →
      DW E t39E fr' ⟨(M ++ [O.cells (W0.map (.int .i64)) 3 (some 0)]) ++ [O.dead], h.length⟩ Qf := by
    intro Qf fr' g g13 hF
    obtain ⟨g1, g2, g3⟩ := g
    rw [t39E_eq]
    rw [DW_seq]
    show DW E (match t39E with | .seq a _ => a | _ => .skip) _ _ _
    unfold t39E q39T rb39
    simp [g13, fillL, setL, hl1, -List.append_assoc]
    refine lw.imp ?_
    rintro out st' ⟨rfl, f, rfl, hf⟩
    simp [joined_le (show h.length ≤ f by omega), -List.append_assoc]
    show DW E (match t39E with | .seq _ (.seq a _) => a | _ => .skip) _ _ _
    unfold t39E q39T rb39
    have mf1 : min h.length M3.length = h.length := by omega
    simp [g1, pM3.1, w4, mf1, -List.append_assoc]
    show DW E (match t39E with | .seq _ (.seq _ (.seq a _)) => a | _ => .skip) _ _ _
    unfold t39E q39T rb39
    have rC4 := pM4.2
    rw [← eC] at rC4
    simp [g1, rC4, c1, c2, ez, w5, mf1, -List.append_assoc]
    show DW E (match t39E with | .seq _ (.seq _ (.seq _ (.seq a _))) => a | _ => .skip) _ _ _
    unfold t39E q39T rb39
    have mf2 : min h.length H5.length = h.length := by omega
    simp [r5, DC_of d5, joined_le (show h.length ≤ f5 by omega), w6', mf2, -List.append_assoc]
    exact hF _ (by simp [g2]) (by simp [g13]) (by simp)
  by_cases hk2 : kind = 2
  · subst hk2
    obtain ⟨M7, w7, z7, l7, a7⟩ := wr_res (vals := [.int .i64 2, vX, .int .i64 xd, vY, .int .i64 yd, vR]) q6 rfl rfl hone6
    have hE0 := right_emp hR
    have hE1 := emp_cost (C := C) (by simp; omega) hE0
    have a7M : ∀ c, c < M.length → c ≠ q → M7[c]? = M[c]? := fun c hc hn => by rw [a7 c hn, a6M c hc]
    have a75 : ∀ c, c < H5.length → c ≠ q → M7[c]? = H5[c]? := fun c hc hn => by rw [a7 c hn, a6' c hc]
    have q5 : H5[q]? = some (.cells zeroRes6 27 (some 0)) := by rw [← a6' q (by omega)]; exact q6
    have hY7 := ints_off hY q5 (emp_nonzero hE0) a75
    have K7 : Keep h M7 := ⟨by omega, fun c hc => by rw [a7M c (by omega) (by omega), ← a5M c (by omega), K5.2 c hc]⟩
    refine ⟨_, ⟨M7, h.length⟩, ⟨2, xd, yd, X, Y, R, vX, vY, vR, rfl, ⟨hR.1, .inr (.inl ⟨rfl, hE1⟩)⟩, ints_none hX ?_, hY7, ints_none hRR ?_, fun h => absurd rfl h, K7, rfl⟩, fun fr' g g13 => common _ fr' g g13 fun fr'' k2 k13 k17 => ?_⟩
    · exact hE0.1
    · exact hE0.2.2.2.1
    · show DW E (match t39E with | .seq _ (.seq _ (.seq _ (.seq _ f))) => f | _ => .skip) _ _ _
      unfold t39E q39T rb39
      have mf3 : min h.length q = h.length := by omega
      have rM7 : rdN M7 q 0 6 = some _ := rdN6 z7 rfl
      simp [k2, k13, k17, rk, rM6, w7, mf3, rM7]
      unfold back
      rw [sc39 (h := M5) hR hY hb, Bool.false_and, if_neg (by decide)]
      exact ⟨rfl, rfl⟩
  · -- a solution, and a ray
    have hsol : kind = 1 ∧ IsSol A B C X xd ∨ kind = 3 ∧ Unb A B (List.replicate L.n 0) X xd Y yd R := by
      rcases hR.2 with ⟨e, ho⟩ | ⟨e, _⟩ | ⟨e, hu⟩
      · exact .inl ⟨e, sol_cost (by simp; omega) ho.1⟩
      · exact absurd e hk2
      · exact .inr ⟨e, hu⟩
    have hsol : IsSol A B C X xd := by
      rcases hsol with ⟨_, h⟩ | ⟨_, hu⟩
      · exact h
      · have := hu.2.2.2.2.2.2
        rw [dotZ, sumN_zero fun j hj => by rw [n0, Int.zero_mul]] at this
        omega
    obtain ⟨b, rfl, hbl, _⟩ := hb hk2
    have hR3 : Right A B C 3 X xd [] 0 W := by
      have hI2 := hI
      have hz2 := hz
      have k1' := k1
      have k3' := k3
      rw [em, en] at hI2 hz2
      rw [en] at k1' nW
      rw [em] at k3' nW
      refine unb_right hv hI2 hz2 k1' k2 k4 k3' hgw (by omega) nW hsol ⟨hR.1.1, fun i hi => by simp at hi, fun i hi => ?_, hR.1.2.2.2.1, ⟨by omega, by omega⟩⟩
      have := bW i hi
      omega
    obtain ⟨M7, w7, z7, l7, a7⟩ := wr_res (vals := [.int .i64 3, .slice (some ⟨b, 0, none⟩) X.length X.length, .int .i64 xd, .slice none 0 0, .int .i64 0, .slice (some ⟨M.length, 0, none⟩) L.n L.n]) q6 rfl rfl rfl
    have a7M : ∀ c, c < M.length → c ≠ q → M7[c]? = M[c]? := fun c hc hn => by rw [a7 c hn, a6M c hc]
    have a75 : ∀ c, c < H5.length → c ≠ q → M7[c]? = H5[c]? := fun c hc hn => by rw [a7 c hn, a6' c hc]
    have hX7 := ints_at hX (q := q) (by omega) a75
    have hw7 : M7[M.length]? = some (.cells (W.map (.int .i64)) 3 (some 0)) := by
      rw [a75 _ (by omega) (by omega), hkp5.2 _ (by omega), a5' _ (by omega) (by omega), a4' _ (by omega)]; exact w3
    have hW7 : Ints M7 (.slice (some ⟨M.length, 0, none⟩) L.n L.n) W := by
      have := ints_take (k := L.n) (c := L.n) hw7 (by omega) (fun i => by
        by_cases hi : i < W.length
        · have := bW i hi; constructor <;> omega
        · rw [nth_ge (by omega)]; constructor <;> omega) (by omega)
      rwa [List.take_of_length_le (by omega)] at this
    have K7 : Keep h M7 := ⟨by omega, fun c hc => by rw [a7M c (by omega) (by omega), ← a5M c (by omega), K5.2 c hc]⟩
    refine ⟨_, ⟨M7, h.length⟩, ⟨3, xd, 0, X, [], W, _, .slice none 0 0, _, rfl, hR3, hX7, Ints.nil, hW7, fun _ => ⟨b, rfl, by omega, .inl rfl, .inr ⟨_, _, _, rfl, by omega⟩⟩, K7, rfl⟩, fun fr' g g13 => common _ fr' g g13 fun fr'' k2 k13 k17 => ?_⟩
    show DW E (match t39E with | .seq _ (.seq _ (.seq _ (.seq _ f))) => f | _ => .skip) _ _ _
    unfold t39E q39T rb39
    have mf3 : min h.length q = h.length := by omega
    have rM7 : rdN M7 q 0 6 = some _ := rdN6 z7 rfl
    simp [k2, k13, k17, rk, eq_false hk2, rX, rxd, w7, mf3, rM7]
    unfold back
    rw [show (Out.ret (Value.agg #[Value.int .i64 3, .slice (some ⟨b, 0, none⟩) X.length X.length, .int .i64 xd, .slice none 0 0, .int .i64 0, .slice (some ⟨M.length, 0, none⟩) L.n L.n])).scalar = false by simp [Out.scalar, scalar, flat1, flat], Bool.false_and, if_neg (by decide)]
    exact ⟨rfl, rfl⟩
end Go.Proofs.Ytdbkhecnkhjhpaa
