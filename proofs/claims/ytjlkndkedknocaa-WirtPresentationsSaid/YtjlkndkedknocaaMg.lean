/- Texts that were built one by one: Ra5, Ra6, Ra7, Ra8, Ra9, Ra10, Ra11, RaC, Wr3, Wc3, Wr7, Wb1, Wb2, Wb3, Wb4. -/
import Derived.Test.YtjlkndkedknocaaMf
import Derived.Test.YtjlkndkedknocaaMd
set_option linter.unusedSimpArgs false
set_option linter.unusedVariables false
namespace Go.Ai
theorem slice_read {h : List O} {b size n : Nat} {cs : List Value} {el : TypeId} {own : Option Nat} (hb : h[b]? = some (.cells cs el own)) (hl : cs.length = n * size) : readSlice h size n (some ⟨b, 0, none⟩) = some cs := by
 simp only [readSlice]
 split
 ·rename_i h0'
  have : cs = [] := List.length_eq_zero_iff.1 (by omega)
  rw [this]
 ·simp [rdN, hb, hl]
  exact List.take_of_length_le (by omega)
def OwnT (h : List O) (lo : Nat) (v : Value) (k : Nat) (cs : List Value) (el : TypeId) (size : Nat) : Prop := (v = emptyS ∧ k = 0 ∧ cs = []) ∨ OwnS h lo v k cs el size
theorem OwnT.keep {h h' : List O} {lo k : Nat} {v : Value} {cs : List Value} {el : TypeId} {size : Nat} (ho : OwnT h lo v k cs el size) (hk : ∀ b s, v = .slice (some ⟨b, 0, none⟩) k k → lo ≤ b → h[b]? = some (.cells cs el (some s)) → h'[b]? = some (.cells cs el (some s))) : OwnT h' lo v k cs el size := by
 rcases ho with h1 | ⟨h0, h1 | ⟨b, s, h1, h2, h3, h4⟩⟩
 ·exact .inl h1
 ·exact .inr ⟨h0, .inl h1⟩
 ·exact .inr ⟨h0, .inr ⟨b, s, h1, h2, hk b s h1 h2 h3, h4⟩⟩
theorem OwnT.len {h : List O} {lo k : Nat} {v : Value} {cs : List Value} {el : TypeId} {size : Nat} (ho : OwnT h lo v k cs el size) : cs.length = k * size := by
 rcases ho with ⟨_, rfl, rfl⟩ | h1
 ·simp
 ·exact h1.1
theorem OwnT.look {h : List O} {lo k : Nat} {v : Value} {cs : List Value} {el : TypeId} {size : Nat} (ho : OwnT h lo v k cs el size) : ∃ a, v = .slice a k k ∧ (0 < k → ∃ b s, a = some ⟨b, 0, none⟩ ∧ lo ≤ b ∧ h[b]? = some (.cells cs el (some s))) := by
 rcases ho with ⟨rfl, rfl, rfl⟩ | ⟨_, ⟨rfl, rfl⟩ | ⟨b, s, rfl, h2, h3, h4⟩⟩
 ·exact ⟨_, rfl, fun h => absurd h (by omega)⟩
 ·exact ⟨_, rfl, fun h => absurd h (by omega)⟩
 ·exact ⟨_, rfl, fun _ => ⟨b, s, rfl, h2, h3⟩⟩
theorem append_T {H : List O} {lo k n fl c : Nat} {v : Value} {cs new : List Value} {el : TypeId} {size bytes : Nat} {xb : Option Addr}
  (ho : OwnT H lo v k cs el size) (hx : readSlice H size n xb = some new) (hnew : new.length = n * size) (hone : new.all one1 = true) (hlo : lo ≤ H.length) (hroom : (k + n) * bytes ≤ roomMax) (hn : 0 < n) :
  ∃ b' H' fl', appendV el size bytes v (.slice xb n c) ⟨H, fl⟩ = some (.slice (some ⟨b', 0, none⟩) (k + n) (k + n), ⟨H', fl'⟩) ∧ H.length ≤ b' ∧ OwnT H' lo (.slice (some ⟨b', 0, none⟩) (k + n) (k + n)) (k + n) (cs ++ new) el size ∧ min fl lo ≤ fl' ∧ fl' ≤ fl ∧ H.length ≤ H'.length ∧
   (∀ (b : Nat) (o : O), H[b]? = some o → (b < lo ∨ ∀ c : List Value, ∀ s, o ≠ .cells c el s) → H'[b]? = some o) := by
 rcases ho with ⟨rfl, rfl, rfl⟩ | ho
 ·refine ⟨H.length, H ++ [.cells ([] ++ new) el (some size)], fl, ?_, Nat.le_refl _, .inr ⟨?_, .inr ⟨H.length, size, rfl, hlo, ?_, .inr rfl⟩⟩, by omega, Nat.le_refl _, by simp, fun b o e _ => app_of e _⟩
  ·simp only [appendV, emptyS, hx, bind, Option.bind_some, appendCells]
   rw [if_neg (by omega), if_neg (by omega), if_pos ⟨hroom, hone⟩]
   simp [readSlice, kill]
  ·simp [hnew]
  ·simp
 ·obtain ⟨b', H', fl', h1, h2, h3, h4, h5, h6, h7⟩ := append_S (fl := fl) (c := c) (bytes := bytes) ho hx hnew hone hlo hroom hn
  refine ⟨b', H', fl', h1, h2, .inr h3, h4, h5, h6, fun b o e hd => h7 b o e fun n' c' ev => ?_⟩
  subst ev
  rcases ho.2 with ⟨e1, _⟩ | ⟨b2, s, e1, e2, e3, _⟩
  ·cases e1
  ·simp only [Value.slice.injEq, Option.some.injEq, Addr.mk.injEq] at e1
   obtain ⟨⟨rfl, _⟩, _⟩ := e1
   rw [e3] at e
   obtain rfl := Option.some.inj e
   rcases hd with hd | hd
   ·omega
   ·exact hd _ _ rfl
end Go.Ai
namespace Go.Proofs.Ytjlkndkedknocaa
open Go Go.Ai
attribute [local instance] Classical.propDecidable
theorem cellsL_length (l : List (Nat × Nat)) : (cellsL l).length = l.length * 2 := by
 induction l with
 | nil => rfl
 | cons x l ih =>
  have : cellsL (x :: l) = cells2 x ++ cellsL l := rfl
  rw [this, List.length_append, ih]; simp [cells2]; omega
theorem cellsL_at {l : List (Nat × Nat)} {j : Nat} {x : Nat × Nat} (h : l[j]? = some x) : ((cellsL l).drop (j * 2)).take 2 = cells2 x := by
 induction l generalizing j with
 | nil => simp at h
 | cons y l ih =>
  have e : cellsL (y :: l) = .int .i64 y.1 :: .int .i64 y.2 :: cellsL l := rfl
  rw [e]
  cases j with
  | zero => simp at h; subst h; rfl
  | succ j =>
   rw [show (j + 1) * 2 = j * 2 + 2 by omega, List.drop_succ_cons, List.drop_succ_cons]
   exact ih (by simpa using h)
theorem orbN_at {G : Dg} {e : Nat × Nat} {i j : Nat} (h : j < i) : (orbN G e i)[j]? = some (orb G e j) := by simp [orbN, h]
variable {E : Env} (hE : OE E)
include hE
theorem has_ {h : List O} {b n c : Nat} {l : List (Nat × Nat)} {el : TypeId} {own : Option Nat} (hb : 0 < n → h[b]? = some (.cells (cellsL l) el own)) (hn : l.length = n) (hlt : n < 1000000) (e : Nat × Nat) :
  DR E 225 [.slice (some ⟨b, 0, none⟩) n c, endV e] ⟨h, h.length⟩ (.ret (.bool (decide (e ∈ l)))) ⟨h, h.length⟩ := by
 refine hE.fn (body := rb225) rfl ?_
 unfold rb225
 simp [endV]
 obtain ⟨hB, hhB⟩ : ∃ H, H = h ++ [O.cells [.int .i64 e.1, .int .i64 e.2] 72 (some 0)] := ⟨_, rfl⟩
 have sB : Sub h hB := by rw [hhB]; exact (Sub.refl _).app _
 have bB : hB[h.length]? = some (O.cells [.int .i64 e.1, .int .i64 e.2] 72 (some 0)) := by rw [hhB, app_at0]; rfl
 rw [← hhB]
 have hcl := cellsL_length l
 refine DW_loop (fun kk fr st => ∃ (i : Nat), i + kk = n ∧ st = ⟨hB, h.length⟩ ∧ (∀ j, j < i → l[j]? ≠ some e) ∧ get fr 0 = .slice (some ⟨b, 0, none⟩) n c ∧ get fr 3 = .pointer (some ⟨h.length, 0, none⟩) ∧ get fr 5 = .int .i64 i) ?_ (k := n) ?_
 ·rintro kk fr st ⟨i, hik, rfl, hm, g0, g3, g5⟩
  by_cases hi : i < n
  ·have hw : IntKind.i64.wrap ((i : Int) + 1) = (i : Int) + 1 := by rw [w64_id] <;> omega
   obtain ⟨y, hy⟩ : ∃ y, l[i]? = some y := ⟨l[i], by simp⟩
   have hat := sB _ _ (hb (by omega))
   have hc := cellsL_at hy
   simp only [cells2] at hc
   have hle : i * 2 + 2 ≤ (cellsL l).length := by omega
   by_cases hv : y = e
   ·subst hv
    simp [g0, g3, g5, hi, rdN_def, hat, bB, hc, hle, back_scalar, Out.scalar, scalar, flat1, flat]
    exact List.mem_of_getElem? hy
   ·have hv' : (decide (y.1 = e.1) && decide (y.2 = e.2)) = false := by
     rw [Bool.and_eq_false_iff, decide_eq_false_iff_not, decide_eq_false_iff_not]
     by_cases h1 : y.1 = e.1
     ·exact .inr fun h2 => hv (Prod.ext h1 h2)
     ·exact .inl h1
    simp [g0, g3, g5, hi, rdN_def, hat, bB, hc, hle, hw, hv']
    refine ⟨kk - 1, by omega, i + 1, by omega, fun j hj => ?_, by omega⟩
    by_cases ej : j = i
    ·rw [ej, hy]; exact fun e' => hv (Option.some.inj e')
    ·exact hm j (by omega)
  ·have hin : i = n := by omega
   subst hin
   simp [g0, g3, g5, back_scalar, Out.scalar, scalar, flat1, flat]
   intro hmem
   obtain ⟨j, hj, hje⟩ := List.getElem_of_mem hmem
   exact hm j (by omega) (by rw [List.getElem?_eq_getElem hj, hje])
 ·exact ⟨0, by omega, rfl, fun j h => by omega, by simp⟩
end Go.Proofs.Ytjlkndkedknocaa
namespace Go.Proofs.Ytjlkndkedknocaa
open Go Go.Ai
attribute [local instance] Classical.propDecidable
variable {E : Env} (hE : OE E)
include hE
theorem region_ {h0 : List O} {a : Option Addr} {n c : Nat} {x : Nat → Nat → Int} {s : Nat → Int} {L : Int} (hx : CrossP h0 a n x s) (hS : Snd n x s L) {e : Nat × Nat} (he : InV (dgOf n x s L) e) :
  DC E 199 [dV a n c L, endV e] ⟨h0, h0.length⟩ fun o st' => ∃ v, o = .ret v ∧ h0.length ≤ st'.fl ∧ Sub h0 st'.h ∧ OwnS st'.h h0.length v (per (dgOf n x s L) e) (cellsL (orbL (dgOf n x s L) e)) 72 2 := by
 refine hE.fnC (body := rb199) rfl ?_
 unfold rb199
 have hG := good_of hS
 have hoth := fun {y : Nat × Nat} (hy : InV (dgOf n x s L) y) h k => other_ hE (h0 := h) (a := a) (x := x) (c := c) k hS hy
 simp only [dV, endV] at hoth
 obtain ⟨G, hGe⟩ : ∃ G, G = dgOf n x s L := ⟨_, rfl⟩
 rw [← hGe] at hG he ⊢
 simp only [← hGe] at hoth
 have hGn : G.n = n := by rw [hGe]; rfl
 have hsz := hG.size
 obtain ⟨⟨hm, hmend, hm4⟩, hmid⟩ := per_spec hG he
 simp [dV, endV, rdN_at0, rdN_at, List.append_assoc]
 obtain ⟨hB, hhB⟩ : ∃ H, H = h0 ++ [O.cells [.slice a n c, .int .i64 L] 24 (some 0), O.cells [.int .i64 e.1, .int .i64 e.2] 72 (some 0)] := ⟨_, rfl⟩
 have lB : hB.length = h0.length + 2 := by rw [hhB]; simp
 have sB : Sub h0 hB := by rw [hhB]; exact (Sub.refl _).app _
 have bB : hB[h0.length]? = some (O.cells [.slice a n c, .int .i64 L] 24 (some 0)) := by rw [hhB, app_at0]; rfl
 have bE : hB[h0.length + 1]? = some (O.cells [.int .i64 e.1, .int .i64 e.2] 72 (some 0)) := by rw [hhB, app_at]; rfl
 refine DW_loop (fun kk fr st => ∃ (i : Nat) (h : List O) (bi : Nat), i + kk = per G e ∧ 0 < i ∧ st = ⟨h, h0.length⟩ ∧ Sub hB h ∧ OwnS h hB.length (.slice (some ⟨bi, 0, none⟩) i i) i (cellsL (orbN G e i)) 72 2 ∧ get fr 2 = .pointer (some ⟨h0.length, 0, none⟩) ∧ get fr 3 = .pointer (some ⟨h0.length + 1, 0, none⟩) ∧ get fr 5 = .slice (some ⟨bi, 0, none⟩) i i) ?_ (k := per G e - 1) ?_
 ·rintro kk fr st ⟨i, h, bi, hik, hi0, rfl, hsub, hown, g2, g3, g5⟩
  have hsl := hsub.len
  obtain ⟨hlo, sz, hcell⟩ := hown.at_
  obtain ⟨j, rfl⟩ : ∃ j, i = j + 1 := ⟨i - 1, by omega⟩
  have hy := orb_inV hG he j
  have hot := hoth hy
  have hcat : ((cellsL (orbN G e (j + 1))).drop (j * 2)).take 2 = [.int .i64 (orb G e j).1, .int .i64 (orb G e j).2] := cellsL_at (orbN_at (Nat.lt_succ_self j))
  have hcl : j * 2 + 2 ≤ (cellsL (orbN G e (j + 1))).length := by rw [cellsL_length, orbN_length]; omega
  have hon := oth_spec hG hy
  have h2lt := hon.1.2.1
  obtain ⟨o1, ho1⟩ : ∃ o1, o1 = oth G (orb G e j) := ⟨_, rfl⟩
  have hg : orb G e (j + 1) = (o1.1, (o1.2 + 3) % 4) := by rw [ho1]; rfl
  rw [← ho1] at hot h2lt
  have hb2 : h[h0.length]? = some (O.cells [.slice a n c, .int .i64 L] 24 (some 0)) := hsub _ _ bB
  have hbe : h[h0.length + 1]? = some (O.cells [.int .i64 e.1, .int .i64 e.2] 72 (some 0)) := hsub _ _ bE
  have hcs : CrossP h a n x s := hx.sub (sB.trans hsub)
  have hwm : IntKind.i64.wrap (j : Int) = j := by rw [w64_id] <;> omega
  have hwp : IntKind.i64.wrap ((o1.2 : Int) + 3) = (o1.2 : Int) + 3 := by rw [w64_id] <;> omega
  have hmod : ((o1.2 : Int) + 3).tmod 4 = ((o1.2 + 3) % 4 : Nat) := tmod_add _ 3 4
  obtain ⟨w, hww⟩ : ∃ w, w = (o1.2 + 3) % 4 := ⟨_, rfl⟩
  rw [← hww] at hmod hg
  have hj1 : (j : Int) < (j : Int) + 1 := by omega
  have hE1 : ∀ l, (h ++ l)[h0.length + 1]? = some (O.cells [.int .i64 e.1, .int .i64 e.2] 72 (some 0)) := fun l => app_of hbe l
  have hmin : min h0.length h.length = h0.length := by omega
  have hmin2 : min h0.length (h.length + 1) = h0.length := by omega
  have hdec : (Nat.testBit 511 7 = true ∧ (Nat.testBit 511 6 = false → ¬h.length = bi) ∧ (Nat.testBit 511 3 = false → ¬h.length = bi)) := ⟨by decide, fun h => absurd h (by decide), fun h => absurd h (by decide)⟩
  by_cases hend : orb G e (j + 1) = e
  ·have hper : j + 1 = per G e := by
    apply Classical.byContradiction
    intro hne
    exact hmid (j + 1) (by omega) (by omega) hend
   have he1 : o1.1 = e.1 ∧ w = e.2 := by rw [hg] at hend; rw [← hend]; exact ⟨rfl, rfl⟩
   obtain ⟨e1, e2⟩ := he1
   simp [g2, g3, g5, rd_def, rdN_def, hb2, hcell, hcl, hcat, hwm, hj1, DC_when hot, hcs, joined_fl, wrN_at0, set_at0, wrN_at, set_at, app_at0, app_at, hwp, hmod, hE1, List.append_assoc, e1, e2, endK_ret, hmin, hmin2]
   refine ⟨hdec, ?_⟩
   unfold pairQ back
   rw [if_neg (by simp [Out.scalar, scalar, flat1, flat])]
   refine ⟨_, rfl, Nat.le_refl _, (sB.trans hsub).app _, ?_⟩
   have ho2 : OwnS (h ++ [O.cells [.int .i64 e.1, .int .i64 o1.2] 72 (some 0), O.cells [.int .i64 e.1, .int .i64 e.2] 72 (some 0)]) hB.length (.slice (some ⟨bi, 0, none⟩) (j + 1) (j + 1)) (j + 1) (cellsL (orbN G e (j + 1))) 72 2 := hown.keep fun b s _ k => app_of k _
   rw [show orbL G e = orbN G e (j + 1) by rw [hper]; rfl, ← hper]
   obtain ⟨q1, q2⟩ := ho2
   rcases q2 with q2 | ⟨b, s', q2, q3, q4, q5⟩
   ·exact ⟨q1, .inl q2⟩
   ·exact ⟨q1, .inr ⟨b, s', q2, by omega, q4, q5⟩⟩
  ·have hne : (decide (o1.1 = e.1) && decide (w = e.2)) = false := by
    rw [Bool.and_eq_false_iff, decide_eq_false_iff_not, decide_eq_false_iff_not]
    by_cases h1 : o1.1 = e.1
    ·exact .inr fun h2 => hend (by rw [hg]; exact Prod.ext h1 h2)
    ·exact .inl h1
   have hjp : j + 1 < per G e := by
    rcases Nat.lt_or_ge (j + 1) (per G e) with h | h
    ·exact h
    ·exact absurd (by rw [show j + 1 = per G e by omega]; exact hmend) hend
   obtain ⟨H3, hH3⟩ : ∃ H, H = h ++ [O.cells [.int .i64 o1.1, .int .i64 o1.2] 72 (some 0), O.cells [.int .i64 o1.1, .int .i64 w] 72 (some 0), O.cells [.int .i64 o1.1, .int .i64 w] 72 (some 0)] := ⟨_, rfl⟩
   have S3 : Sub h H3 := by rw [hH3]; exact (Sub.refl _).app _
   have ho3 : OwnS H3 hB.length (.slice (some ⟨bi, 0, none⟩) (j + 1) (j + 1)) (j + 1) (cellsL (orbN G e (j + 1))) 72 2 := hown.keep fun b s _ k => S3 _ _ k
   have hrd : readSlice H3 2 1 (some ⟨h.length + 2, 0, none⟩) = some [.int .i64 o1.1, .int .i64 w] := slice_read (by rw [hH3, app_at]; rfl) rfl
   have l3 : h.length ≤ H3.length := S3.len
   obtain ⟨b', H4, f4, happ, hb', hown4, hf1, hf2, hl4, hk4⟩ := append_S (fl := h0.length) (c := 1) (bytes := 16) ho3 hrd rfl rfl (by omega) (by simp only [roomMax]; omega) (by omega)
   have hf4 : f4 = h0.length := by omega
   have hdrop : ∀ (l : List (Nat × Nat)) (y : Nat × Nat), cellsL l ++ [.int .i64 y.1, .int .i64 y.2] = cellsL (l ++ [y]) := fun l y => (cellsL_app l y).symm
   simp [g2, g3, g5, rd_def, rdN_def, hb2, hcell, hcl, hcat, hwm, hj1, DC_when hot, hcs, joined_fl, wrN_at0, set_at0, wrN_at, set_at, app_at0, app_at, hwp, hmod, hE1, List.append_assoc, hne, endK_ret, hmin, hmin2, ← hH3, happ, hf4]
   refine ⟨hdec, kk - 1, by omega, j + 1 + 1, by omega, by omega, fun b o hb => hk4 b o (S3 _ _ (hsub _ _ hb)) fun n' c' ev => ?_, b', ?_, rfl, rfl⟩
   ·have := (List.getElem?_eq_some_iff.1 hb).1
    simp only [Value.slice.injEq, Option.some.injEq, Addr.mk.injEq] at ev
    omega
   ·rw [orbN_succ, hg, cellsL_app]
    exact hown4
 ·refine ⟨1, h0 ++ [O.cells [.slice a n c, .int .i64 L] 24 (some 0), O.cells [.int .i64 e.1, .int .i64 e.2] 72 (some 0), O.cells [.int .i64 e.1, .int .i64 e.2] 72 (some 0)], h0.length + 2, by omega, by omega, rfl, ?_, ?_, ?_⟩
  ·rw [hhB]; exact Ext.sub ⟨[O.cells [.int .i64 e.1, .int .i64 e.2] 72 (some 0)], by simp⟩
  ·refine ⟨rfl, .inr ⟨_, 0, rfl, by omega, ?_, .inl rfl⟩⟩
   rw [app_at]; rfl
  ·simp
end Go.Proofs.Ytjlkndkedknocaa
namespace Go.Proofs.Ytjlkndkedknocaa
open Go Go.Ai
attribute [local instance] Classical.propDecidable
def RegsQ (h : List O) (lo : Nat) (v : Value) (L : List (List (Nat × Nat))) : Prop :=
 ∃ vs, OwnT h lo v L.length vs 215 1 ∧ ∀ (i : Nat) r, L[i]? = some r → ∃ v', vs[i]? = some v' ∧ OwnS h lo v' r.length (cellsL r) 72 2
theorem RegsQ.keep {h h' : List O} {lo : Nat} {v : Value} {L : List (List (Nat × Nat))} (k : RegsQ h lo v L) (hk : Sub h h') : RegsQ h' lo v L := by
 obtain ⟨vs, h1, h2⟩ := k
 refine ⟨vs, h1.keep fun b s _ _ e => hk _ _ e, fun i r hr => ?_⟩
 obtain ⟨v', h3, h4⟩ := h2 i r hr
 exact ⟨v', h3, h4.keep fun b s _ e => hk _ _ e⟩
theorem RegsQ.low {h : List O} {lo lo' : Nat} {v : Value} {L : List (List (Nat × Nat))} (k : RegsQ h lo v L) (hl : lo' ≤ lo) : RegsQ h lo' v L := by
 have low : ∀ {v k cs el size}, OwnS h lo v k cs el size → OwnS h lo' v k cs el size := fun ⟨h0, h1⟩ => by
  rcases h1 with h1 | ⟨b, s, h1, h2, h3⟩
  ·exact ⟨h0, .inl h1⟩
  ·exact ⟨h0, .inr ⟨b, s, h1, Nat.le_trans hl h2, h3⟩⟩
 obtain ⟨vs, h1, h2⟩ := k
 refine ⟨vs, ?_, fun i r hr => ?_⟩
 ·rcases h1 with h1 | h1
  ·exact .inl h1
  ·exact .inr (low h1)
 ·obtain ⟨v', h3, h4⟩ := h2 i r hr
  exact ⟨v', h3, low h4⟩
theorem RegsQ.at_ {h : List O} {lo : Nat} {v : Value} {L : List (List (Nat × Nat))} (k : RegsQ h lo v L) : ∃ a, v = .slice a L.length L.length ∧
  ∀ (i : Nat) r, L[i]? = some r → r ≠ [] → ∃ b b' s s' vs, a = some ⟨b, 0, none⟩ ∧ lo ≤ b ∧ lo ≤ b' ∧ h[b]? = some (.cells vs 215 (some s)) ∧ vs[i]? = some (.slice (some ⟨b', 0, none⟩) r.length r.length) ∧ h[b']? = some (.cells (cellsL r) 72 (some s')) := by
 obtain ⟨vs, h1, h2⟩ := k
 obtain ⟨a, rfl, ha⟩ := h1.look
 refine ⟨a, rfl, fun i r hr hne => ?_⟩
 have hi := (List.getElem?_eq_some_iff.1 hr).1
 obtain ⟨b, s, rfl, hb1, hb2⟩ := ha (by omega)
 obtain ⟨v', h3, h4, h5⟩ := h2 i r hr
 rcases h5 with ⟨_, h6⟩ | ⟨b', s', rfl, h7, h8, _⟩
 ·exact absurd (List.length_eq_zero_iff.1 h6) hne
 ·exact ⟨b, b', s, s', vs, rfl, hb1, h7, hb2, h3, h8⟩
theorem RegsQ.push {h : List O} {lo fl c : Nat} {v v' : Value} {xb : Option Addr} {L : List (List (Nat × Nat))} {r : List (Nat × Nat)} (k : RegsQ h lo v L) (ho : OwnS h lo v' r.length (cellsL r) 72 2) (hx : readSlice h 1 1 xb = some [v']) (hone : one1 v' = true) (hlo : lo ≤ h.length) (hroom : (L.length + 1) * 24 ≤ roomMax) :
  ∃ b' h' fl', appendV 215 1 24 v (.slice xb 1 c) ⟨h, fl⟩ = some (.slice (some ⟨b', 0, none⟩) (L.length + 1) (L.length + 1), ⟨h', fl'⟩) ∧ RegsQ h' lo (.slice (some ⟨b', 0, none⟩) (L.length + 1) (L.length + 1)) (L ++ [r]) ∧ min fl lo ≤ fl' ∧ fl' ≤ fl ∧ h.length ≤ h'.length ∧
   (∀ (b : Nat) (o : O), h[b]? = some o → (b < lo ∨ ∀ c : List Value, ∀ s, o ≠ .cells c 215 s) → h'[b]? = some o) := by
 obtain ⟨vs, h1, h2⟩ := k
 have hl := h1.len
 obtain ⟨b', h', fl', e1, e2, e3, e4, e5, e6, hs⟩ := append_T (fl := fl) (c := c) (bytes := 24) h1 hx rfl (by simp [hone]) hlo hroom (by omega)
 have keep : ∀ {v k cs}, OwnS h lo v k cs 72 2 → OwnS h' lo v k cs 72 2 := fun h => h.keep fun b s _ e => hs _ _ e (.inr fun c s' e' => by cases e')
 refine ⟨b', h', fl', e1, ⟨vs ++ [v'], by rw [List.length_append]; exact e3, fun i q hq => ?_⟩, e4, e5, e6, hs⟩
 by_cases hi : i < L.length
 ·rw [List.getElem?_append_left hi] at hq
  obtain ⟨v2, h3, h4⟩ := h2 i q hq
  exact ⟨v2, by rw [List.getElem?_append_left (by omega)]; exact h3, keep h4⟩
 ·rw [List.getElem?_append_right (by omega)] at hq
  have e0 : i - L.length = 0 := by
   rcases Nat.eq_zero_or_pos (i - L.length) with h | h
   ·exact h
   ·rw [List.getElem?_eq_none (by simp; omega)] at hq; cases hq
  rw [e0] at hq
  obtain rfl := Option.some.inj hq
  exact ⟨v', by rw [List.getElem?_append_right (by omega), show i - vs.length = 0 by omega]; rfl, keep ho⟩
theorem OwnS.low {h : List O} {lo lo' k : Nat} {v : Value} {cs : List Value} {el : TypeId} {size : Nat} (ho : OwnS h lo v k cs el size) (hl : lo' ≤ lo) : OwnS h lo' v k cs el size := by
 obtain ⟨h0, h1⟩ := ho
 rcases h1 with h1 | ⟨b, s, h1, h2, h3⟩
 ·exact ⟨h0, .inl h1⟩
 ·exact ⟨h0, .inr ⟨b, s, h1, Nat.le_trans hl h2, h3⟩⟩
theorem RegsQ.scalar {h : List O} {lo : Nat} {v : Value} {L : List (List (Nat × Nat))} (k : RegsQ h lo v L) (hs : Ai.scalar v = true) : L = [] ∧ ∀ h', RegsQ h' lo v L := by
 obtain ⟨vs, h1, h2⟩ := k
 rcases h1 with ⟨rfl, h3, rfl⟩ | ⟨h4, ⟨rfl, h5⟩ | ⟨b, s, rfl, h6⟩⟩
 ·have : L = [] := List.length_eq_zero_iff.1 h3
  subst this
  exact ⟨rfl, fun h' => ⟨[], .inl ⟨rfl, rfl, rfl⟩, fun i r h => by simp at h⟩⟩
 ·have : L = [] := List.length_eq_zero_iff.1 h5
  subst this
  exact ⟨rfl, fun h' => ⟨vs, .inr ⟨h4, .inl ⟨rfl, rfl⟩⟩, fun i r h => by simp at h⟩⟩
 ·simp [Ai.scalar, flat1, flat] at hs
theorem vis_flat (G : Dg) (e : Nat × Nat) : ∀ j, e ∈ (vis G j).1 ↔ ∃ (i : Nat) (r : List (Nat × Nat)), (vis G j).2[i]? = some r ∧ e ∈ r := by
 have hfl : ∀ j, (vis G j).1 = (vis G j).2.flatten := by
  intro j
  induction j with
  | zero => rfl
  | succ j ih =>
   simp only [vis]
   by_cases hx : endOf j ∈ (vis G j).1
   ·rw [if_pos hx]; exact ih
   ·rw [if_neg hx]; simp [ih]
 intro j
 rw [hfl, List.mem_flatten]
 constructor
 ·rintro ⟨r, hr, he⟩
  obtain ⟨i, hi, rfl⟩ := List.getElem_of_mem hr
  exact ⟨i, _, List.getElem?_eq_getElem hi, he⟩
 ·rintro ⟨i, r, hr, he⟩
  exact ⟨r, List.mem_of_getElem? hr, he⟩
theorem vis_ne {G : Dg} (hG : GoodG G) {j i : Nat} (hj : j ≤ 4 * G.n) {r : List (Nat × Nat)} (h : (vis G j).2[i]? = some r) : r ≠ [] ∧ r.length ≤ 4 * G.n := by
 obtain ⟨e, he, rfl⟩ := vis_reg hG j hj r (List.mem_of_getElem? h)
 have := per_spec hG he
 have hl : (orbL G e).length = per G e := orbN_length _ _ _
 refine ⟨fun h0 => ?_, by rw [hl]; exact this.1.2.2⟩
 rw [h0] at hl
 simp at hl
 omega
end Go.Proofs.Ytjlkndkedknocaa
namespace Go.Proofs.Ytjlkndkedknocaa
open Go Go.Ai
attribute [local instance] Classical.propDecidable
variable {E : Env} (hE : OE E)
include hE
theorem regionsR_ {h0 : List O} {a : Option Addr} {n c : Nat} {x : Nat → Nat → Int} {s : Nat → Int} {L : Int} (hx : CrossP h0 a n x s) (hS : Snd n x s L) :
  DC E 175 [dV a n c L] ⟨h0, h0.length⟩ fun o st' => ∃ v, o = .ret v ∧ h0.length ≤ st'.fl ∧ Sub h0 st'.h ∧ RegsQ st'.h h0.length v (regs (dgOf n x s L)) := by
 refine hE.fnC (body := rb175) rfl ?_
 unfold rb175
 have hG := good_of hS
 have hreg := fun {y : Nat × Nat} (hy : InV (dgOf n x s L) y) h k => region_ hE (h0 := h) (a := a) (x := x) (c := c) k hS hy
 simp only [dV, endV] at hreg
 obtain ⟨G, hGe⟩ : ∃ G, G = dgOf n x s L := ⟨_, rfl⟩
 rw [← hGe] at hG ⊢
 simp only [← hGe] at hreg
 have hGn : G.n = n := by rw [hGe]; rfl
 have hsz := hG.size
 rw [hGn] at hsz
 obtain ⟨hB, hhB⟩ : ∃ H, H = h0 ++ [O.cells [.slice a n c, .int .i64 L] 24 (some 0)] := ⟨_, rfl⟩
 have lB : hB.length = h0.length + 1 := by rw [hhB]; simp
 have sB : Sub h0 hB := by rw [hhB]; exact (Sub.refl _).app _
 have bB : hB[h0.length]? = some (O.cells [.slice a n c, .int .i64 L] 24 (some 0)) := by rw [hhB, app_at0]; rfl
 simp [dV]
 rw [← hhB]
 refine DW_loop (fun kk fr st => ∃ (i : Nat) (h : List O) (v : Value), i + kk = n ∧ st = ⟨h, h0.length⟩ ∧ Sub hB h ∧ RegsQ h hB.length v (vis G (4 * i)).2 ∧ get fr 1 = .pointer (some ⟨h0.length, 0, none⟩) ∧ get fr 3 = v ∧ get fr 4 = .int .i64 i) ?_ (k := n) ?_
 ·rintro kk fr st ⟨i, h, v, hik, rfl, hsub, hR, g1, g3, g4⟩
  have hb2 : h[h0.length]? = some (O.cells [.slice a n c, .int .i64 L] 24 (some 0)) := hsub _ _ bB
  by_cases hi : i < n
  ·simp [g1, g3, g4, rd_def, hb2, hi]
   refine DW_loop (fun kk' fr st => ∃ (q : Nat) (h : List O) (v : Value), q + kk' = 4 ∧ st = ⟨h, h0.length⟩ ∧ Sub hB h ∧ RegsQ h hB.length v (vis G (4 * i + q)).2 ∧ get fr 1 = .pointer (some ⟨h0.length, 0, none⟩) ∧ get fr 3 = v ∧ get fr 4 = .int .i64 i ∧ get fr 5 = .int .i64 q) ?_ (k := 4) ?_
   ·clear hR g1 g3 g4 hb2 hsub
    clear v h
    rintro kk' fr st ⟨q, h, v, hqk, rfl, hsub, hR, g1, g3, g4, g5⟩
    by_cases hq : q < 4
    ·have hq' : (q : Int) < 4 := by omega
     have hvl := vis_len G (4 * i + q)
     obtain ⟨va, rfl, hat⟩ := hR.at_
     have hend : endOf (4 * i + q) = (i, q) := by unfold endOf; rw [Prod.mk.injEq]; omega
     have hinV : InV G (i, q) := hG.inV (by rw [hGn]; exact hi) hq
     obtain ⟨h1, hh1⟩ : ∃ H, H = h ++ [O.cells [.int .i64 i, .int .i64 q] 72 (some 0)] := ⟨_, rfl⟩
     have s1' : Sub h h1 := by rw [hh1]; exact (Sub.refl _).app _
     have b1 : h1[h.length]? = some (O.cells [.int .i64 i, .int .i64 q] 72 (some 0)) := by rw [hh1, app_at0]; rfl
     have hsl := hsub.len
     have hmin : min h0.length h.length = h0.length := by omega
     simp [g1, g3, g4, g5, hq', wrN_at0, set_at0, hmin]
     rw [← hh1]
     obtain ⟨N, hN⟩ : ∃ N, N = (vis G (4 * i + q)).2.length := ⟨_, rfl⟩
     rw [← hN] at g3 hvl
     refine DW_loop (fun kk'' fr st => ∃ (m : Nat), m + kk'' = N ∧ st = ⟨h1, h0.length⟩ ∧ get fr 1 = .pointer (some ⟨h0.length, 0, none⟩) ∧ get fr 3 = .slice va N N ∧ get fr 4 = .int .i64 i ∧ get fr 5 = .int .i64 q ∧ get fr 6 = .pointer (some ⟨h.length, 0, none⟩) ∧ get fr 7 = .bool (decide (∃ m', m' < m ∧ ∃ r, (vis G (4 * i + q)).2[m']? = some r ∧ (i, q) ∈ r)) ∧ get fr 8 = .int .i64 m) ?_ (k := N) ?_
     ·clear g1 g3 g4 g5
      rintro kk'' fr st ⟨m, hmk, rfl, g1, g3, g4, g5, g6, g7, g8⟩
      have hNlt : N ≤ 800 := by omega
      have hw : IntKind.i64.wrap ((m : Int) + 1) = (m : Int) + 1 := by rw [w64_id] <;> omega
      by_cases hm : m < N
      ·obtain ⟨r, hr⟩ : ∃ r, (vis G (4 * i + q)).2[m]? = some r := ⟨_, List.getElem?_eq_getElem (by omega)⟩
       obtain ⟨hne, hrl⟩ := vis_ne hG (j := 4 * i + q) (by omega) hr
       have hstep : (decide (∃ m', m' < m + 1 ∧ ∃ r, (vis G (4 * i + q)).2[m']? = some r ∧ (i, q) ∈ r)) = (decide (∃ m', m' < m ∧ ∃ r, (vis G (4 * i + q)).2[m']? = some r ∧ (i, q) ∈ r) || decide ((i, q) ∈ r)) := by
        rw [Bool.eq_iff_iff, Bool.or_eq_true, decide_eq_true_iff, decide_eq_true_iff, decide_eq_true_iff]
        constructor
        ·rintro ⟨m', h1, r', h2, h3⟩
         by_cases e : m' = m
         ·subst e
          rw [hr] at h2
          obtain rfl := Option.some.inj h2
          exact .inr h3
         ·exact .inl ⟨m', by omega, r', h2, h3⟩
        ·rintro (⟨m', h1, h2⟩ | h)
         ·exact ⟨m', by omega, h2⟩
         ·exact ⟨m, by omega, r, hr, h⟩
       by_cases hk : ∃ m', m' < m ∧ ∃ r, (vis G (4 * i + q)).2[m']? = some r ∧ (i, q) ∈ r
       ·rw [decide_eq_true hk] at g7 hstep
        rw [Bool.true_or] at hstep
        simp [g1, g3, g4, g5, g6, g7, g8, hm, hw]
        refine ⟨kk'' - 1, by omega, m + 1, by omega, ?_, by omega⟩
        exact of_decide_eq_true hstep
       ·rw [decide_eq_false hk] at g7 hstep
        rw [Bool.false_or] at hstep
        obtain ⟨b, b', s1, s2, vs, rfl, q1, q2, q3, q4, q5⟩ := hat m r hr hne
        have q3' := s1' _ _ q3
        have q5' := s1' _ _ q5
        have hh := fun h k => has_ hE (h := h) (b := b') (n := r.length) (c := r.length) (l := r) (el := 72) (own := some s2) (fun _ => k) rfl (by omega) (i, q)
        simp only [endV] at hh
        simp [g1, g3, g4, g5, g6, g7, g8, hm, hw, rd_def, rdN_def, q3', q4, b1, DC_when hh, q5', joined_fl]
        refine ⟨kk'' - 1, by omega, m + 1, by omega, ?_, by omega⟩
        exact (decide_eq_decide.1 hstep).symm
      ·have hin : m = N := by omega
       subst hin
       have hkn : (∃ m', m' < m ∧ ∃ r, (vis G (4 * i + q)).2[m']? = some r ∧ (i, q) ∈ r) ↔ (i, q) ∈ (vis G (4 * i + q)).1 := by
        rw [vis_flat]
        constructor
        ·rintro ⟨m', _, h⟩; exact ⟨m', h⟩
        ·rintro ⟨m', r, h1, h2⟩
         exact ⟨m', by rw [hN]; exact (List.getElem?_eq_some_iff.1 h1).1, r, h1, h2⟩
       have hwq : IntKind.i64.wrap ((q : Int) + 1) = (q : Int) + 1 := by rw [w64_id] <;> omega
       by_cases hk : (i, q) ∈ (vis G (4 * i + q)).1
       ·rw [decide_eq_true (hkn.2 hk)] at g7
        have hv : vis G (4 * i + (q + 1)) = vis G (4 * i + q) := by
         rw [← Nat.add_assoc]; simp only [vis]; rw [hend, if_pos hk]
        simp [g1, g3, g4, g5, g6, g7, g8, hwq]
        refine ⟨kk' - 1, by omega, q + 1, by omega, hsub.trans s1', _, ?_, rfl, by omega⟩
        rw [hv]; rw [← hN] at hR; exact hR.keep s1'
       ·rw [decide_eq_false (fun h => hk (hkn.1 h))] at g7
        have hv : vis G (4 * i + (q + 1)) = ((vis G (4 * i + q)).1 ++ orbL G (i, q), (vis G (4 * i + q)).2 ++ [orbL G (i, q)]) := by
         rw [← Nat.add_assoc]; simp only [vis]; rw [hend, if_neg hk]
        have hrg := hreg hinV h1 (hx.sub (sB.trans (hsub.trans s1')))
        have hb1 : h1[h0.length]? = some (O.cells [.slice a n c, .int .i64 L] 24 (some 0)) := s1' _ _ (hsub _ _ bB)
        simp [g1, g3, g4, g5, g6, g7, g8, hwq, rdN_def, hb1, b1]
        refine hrg.imp ?_
        rintro o ⟨h2, f2⟩ ⟨v, rfl, hf2, hs2, hO⟩
        simp only at hf2 hs2 hO
        have hPer := (per_spec hG hinV).1
        obtain ⟨br, sr, rfl, hbr, hbc⟩ : ∃ br sr, v = .slice (some ⟨br, 0, none⟩) (per G (i, q)) (per G (i, q)) ∧ h1.length ≤ br ∧ h2[br]? = some (.cells (cellsL (orbL G (i, q))) 72 (some sr)) := by
         rcases hO.2 with ⟨_, hz⟩ | ⟨b, s, e1, e2, e3, _⟩
         ·omega
         ·exact ⟨b, s, e1, e2, e3⟩
        obtain ⟨h3, hh3⟩ : ∃ H, H = h2 ++ [O.cells [.slice (some ⟨br, 0, none⟩) (per G (i, q)) (per G (i, q))] 215 (some 0)] := ⟨_, rfl⟩
        have s3 : Sub h2 h3 := by rw [hh3]; exact (Sub.refl _).app _
        have hR3 := ((hR.keep s1').keep hs2).keep s3
        have hl1 := s1'.len
        have hl2 := hs2.len
        have hl3 := s3.len
        have hO3 : OwnS h3 hB.length (.slice (some ⟨br, 0, none⟩) (per G (i, q)) (per G (i, q))) (orbL G (i, q)).length (cellsL (orbL G (i, q))) 72 2 := by
         rw [show (orbL G (i, q)).length = per G (i, q) from orbN_length _ _ _]
         exact OwnS.low (hO.keep fun b s _ e => s3 _ _ e) (by omega)
        have hrd : readSlice h3 1 1 (some ⟨h2.length, 0, none⟩) = some [.slice (some ⟨br, 0, none⟩) (per G (i, q)) (per G (i, q))] := slice_read (by rw [hh3, app_at0]; rfl) rfl
        obtain ⟨b', h4, f4, happ, hR4, hf4, hf4', hl4, hk4⟩ := hR3.push (fl := h0.length) (c := 1) hO3 hrd rfl (by omega) (by simp only [roomMax]; omega)
        have hf : f4 = h0.length := by omega
        rw [← hN] at happ hR4
        have hlen0 : h0.length < hB.length := by omega
        simp [joined_fl, hf2, ← hh3, happ, hf, g1, g4, g5, hwq]
        refine ⟨kk' - 1, by omega, q + 1, by omega, fun b o hb => hk4 b o (s3 _ _ (hs2 _ _ (s1' _ _ (hsub _ _ hb)))) (.inl (List.getElem?_eq_some_iff.1 hb).1), _, ?_, rfl, by omega⟩
        rw [hv]
        exact hR4
     ·refine ⟨0, by omega, rfl, ?_⟩
      simp [g1, g3, g4, g5]
    ·have hq4 : q = 4 := by omega
     subst hq4
     have hw : IntKind.i64.wrap ((i : Int) + 1) = (i : Int) + 1 := by rw [w64_id] <;> omega
     simp [g1, g3, g4, g5, hw]
     exact ⟨kk - 1, by omega, i + 1, by omega, hsub, _, by rw [Nat.mul_add]; exact hR, rfl, by omega⟩
   ·exact ⟨0, h, v, by omega, rfl, hsub, hR, by simp [g1, g3, g4]⟩
  ·have hin : i = n := by omega
   subst hin
   simp [g1, g3, g4, rd_def, hb2, endK_ret]
   unfold pairQ back
   have hR0 : RegsQ h h0.length v (regs G) := by
    have := hR.low (lo' := h0.length) (by omega)
    unfold regs
    rw [hGn]; exact this
   split
   ·rename_i hc
    rw [Bool.and_eq_true] at hc
    exact ⟨v, rfl, Nat.le_refl _, Sub.refl _, (hR0.scalar hc.1).2 _⟩
   ·exact ⟨v, rfl, Nat.le_refl _, sB.trans hsub, hR0⟩
 ·exact ⟨0, hB, emptyS, by omega, rfl, Sub.refl _, ⟨[], .inl ⟨rfl, rfl, rfl⟩, fun i r h => by simp [vis] at h⟩, by simp⟩
end Go.Proofs.Ytjlkndkedknocaa
namespace Go.Ai
attribute [local instance] Classical.propDecidable
theorem cntP_sub {p q : Nat → Prop} : ∀ {n : Nat}, (∀ i, i < n → q i → p i) → cntP q n ≤ cntP p n := by
 intro n
 induction n with
 | zero => intro _; exact Nat.le_refl _
 | succ n ih =>
  intro h
  have := ih fun i hi => h i (by omega)
  simp only [cntP]
  by_cases hq : q n
  ·rw [if_pos hq, if_pos (h n (by omega) hq)]; omega
  ·rw [if_neg hq]; omega
theorem cntP_less {p q : Nat → Prop} {i0 : Nat} (hp : p i0) (hq : ¬ q i0) : ∀ {n : Nat}, (∀ i, i < n → q i → p i) → i0 < n → cntP q n < cntP p n := by
 intro n
 induction n with
 | zero => intro _ h; omega
 | succ n ih =>
  intro h hi
  have hs := cntP_sub (n := n) fun i hi => h i (show i < n + 1 by omega)
  simp only [cntP]
  by_cases e : i0 = n
  ·subst e
   rw [if_neg hq, if_pos hp]; omega
  ·have := ih (fun i hi => h i (by omega)) (by omega)
   by_cases hq : q n
   ·rw [if_pos hq, if_pos (h n (by omega) hq)]; omega
   ·rw [if_neg hq]; omega
theorem OwnT.scalar {h : List O} {lo k : Nat} {v : Value} {cs : List Value} {el : TypeId} {size : Nat} (ho : OwnT h lo v k cs el size) (hs : Ai.scalar v = true) (h' : List O) : OwnT h' lo v k cs el size := by
 rcases ho with h1 | ⟨h4, ⟨rfl, h5⟩ | ⟨b, s, rfl, h6⟩⟩
 ·exact .inl h1
 ·exact .inr ⟨h4, .inl ⟨rfl, h5⟩⟩
 ·simp [Ai.scalar, flat1, flat] at hs
theorem OwnT.low {h : List O} {lo lo' k : Nat} {v : Value} {cs : List Value} {el : TypeId} {size : Nat} (ho : OwnT h lo v k cs el size) (hl : lo' ≤ lo) : OwnT h lo' v k cs el size := by
 rcases ho with h1 | ⟨h0, h1⟩
 ·exact .inl h1
 ·rcases h1 with h1 | ⟨b, s, h1, h2, h3⟩
  ·exact .inr ⟨h0, .inl h1⟩
  ·exact .inr ⟨h0, .inr ⟨b, s, h1, Nat.le_trans hl h2, h3⟩⟩
end Go.Ai
namespace Go.Proofs.Ytjlkndkedknocaa
open Go Go.Ai
attribute [local instance] Classical.propDecidable
noncomputable def outN (bs : List Bool) (n : Nat) : Nat := cntP (fun i => bnth bs i = false) n
structure PcI (G : Dg) (c : Nat) (bs : List Bool) : Prop where
 len : bs.length = G.n
 root : bnth bs c = true
 conn : ∀ i, i < G.n → bnth bs i = true → Conn G c i
def Cl (G : Dg) (bs : List Bool) (k j : Nat) : Prop := ∀ k' q, k' < G.n → q < 4 → (k' < k ∨ k' = k ∧ q < j) → bnth bs k' = true → bnth bs (oth G (k', q)).1 = true
theorem Cl.step {G : Dg} {bs : List Bool} {k j : Nat} (h : Cl G bs k j) (hb : bnth bs (oth G (k, j)).1 = true) : Cl G bs k (j + 1) := by
 intro k' q h1 h2 h3 h4
 by_cases e : k' = k ∧ q = j
 ·rw [e.1, e.2]; exact hb
 ·exact h k' q h1 h2 (by omega) h4
theorem Cl.next {G : Dg} {bs : List Bool} {k j : Nat} (h : Cl G bs k j) (hb : bnth bs k = false ∨ 4 ≤ j) : Cl G bs (k + 1) 0 := by
 intro k' q h1 h2 h3 h4
 refine h k' q h1 h2 ?_ h4
 rcases hb with hb | hb
 ·left
  have : k' ≠ k := fun e => by rw [e, hb] at h4; cases h4
  omega
 ·omega
theorem PcI.set {G : Dg} (hG : GoodG G) {c k j : Nat} {bs : List Bool} (h : PcI G c bs) (hk : k < G.n) (hj : j < 4) (hb : bnth bs k = true) : PcI G c (bs.set (oth G (k, j)).1 true) := by
 have hn := (nb hG hk hj).1
 have hl := h.len
 refine ⟨by simp [hl], ?_, fun i hi => ?_⟩
 ·rw [bnth_set (by omega)]
  split
  ·rfl
  ·exact h.root
 ·rw [bnth_set (by omega)]
  split
  ·rename_i e
   intro _
   rw [e]
   exact (h.conn k hk hb).step j hj
  ·exact h.conn i hi
theorem outN_set {n i : Nat} {bs : List Bool} (hl : bs.length = n) (hi : i < n) (hb : bnth bs i = false) : outN (bs.set i true) n < outN bs n := by
 unfold outN
 refine cntP_less (i0 := i) hb ?_ (fun j hj => ?_) hi
 ·rw [bnth_set (by omega), if_pos rfl]; simp
 ·rw [bnth_set (by omega)]
  split
  ·intro h; cases h
  ·exact id
theorem Cl.iff {G : Dg} (hG : GoodG G) {c : Nat} {bs : List Bool} (h : PcI G c bs) (hc : c < G.n) (k : Cl G bs G.n 0) {i : Nat} (hi : i < G.n) : bnth bs i = true ↔ Conn G c i := by
 refine ⟨h.conn i hi, fun hC => ?_⟩
 have key : ∀ b, Conn G c b → bnth bs b = true := by
  intro b hb
  induction hb with
  | refl => exact h.root
  | @step b q hab hq ih => exact k b q (hab.lt hG hc) hq (.inl (hab.lt hG hc)) ih
 exact key i hC
variable {E : Env} (hE : OE E)
include hE
theorem piece_ {h0 : List O} {a : Option Addr} {n c : Nat} {x : Nat → Nat → Int} {s : Nat → Int} {L : Int} (hx : CrossP h0 a n x s) (hS : Snd n x s L) {e : Nat} (he : e < n) :
  DC E 193 [dV a n c L, .int .i64 e] ⟨h0, h0.length⟩ fun o st' => ∃ v l, o = .ret v ∧ h0.length ≤ st'.fl ∧ Sub h0 st'.h ∧ l = (List.range n).filter (fun i => decide (Conn (dgOf n x s L) e i)) ∧ OwnT st'.h h0.length v l.length (intsC (l.map Int.ofNat)) 3 1 := by
 refine hE.fnC (body := rb193) rfl ?_
 unfold rb193
 have hG := good_of hS
 have hoth := fun {y : Nat × Nat} (hy : InV (dgOf n x s L) y) h k => other_ hE (h0 := h) (a := a) (x := x) (c := c) k hS hy
 simp only [dV, endV] at hoth
 obtain ⟨G, hGe⟩ : ∃ G, G = dgOf n x s L := ⟨_, rfl⟩
 rw [← hGe] at hG ⊢
 simp only [← hGe] at hoth
 have hGn : G.n = n := by rw [hGe]; rfl
 have hsz := hG.size
 rw [hGn] at hsz
 obtain ⟨hB, hhB⟩ : ∃ H, H = h0 ++ [O.cells [.slice a n c, .int .i64 L] 24 (some 0)] := ⟨_, rfl⟩
 have lB : hB.length = h0.length + 1 := by rw [hhB]; simp
 have sB : Sub h0 hB := by rw [hhB]; exact (Sub.refl _).app _
 have bB : hB[h0.length]? = some (O.cells [.slice a n c, .int .i64 L] 24 (some 0)) := by rw [hhB, app_at0]; rfl
 have e1 : (n : Int) ≤ 140737488355328 := by omega
 have e2 : (n : Int) < 4611686018427387904 := by omega
 have hrep : rep n [Value.bool false] = boolsC (List.replicate n false) := by simp [rep, boolsC]
 have he1 : e + 1 ≤ n := by omega
 simp [dV, rd_at0, e1, e2, hrep, he, wrN_at, set_at, boolsC_set, List.append_assoc, he1]
 obtain ⟨m, hm⟩ : ∃ m, m = h0.length + 1 := ⟨_, rfl⟩
 rw [← hm] at lB ⊢
 refine DW_loop (fun kk fr st => ∃ (h : List O) (bs : List Bool) (ch : Bool), st = ⟨h, h0.length⟩ ∧ Sub hB h ∧ AtB h m (.cells (boolsC bs) 4 (some 0)) ∧ PcI G e bs ∧ (ch = true → outN bs n < kk) ∧ (ch = false → Cl G bs n 0) ∧ get fr 2 = .pointer (some ⟨h0.length, 0, none⟩) ∧ get fr 5 = .slice (some ⟨m, 0, none⟩) n n ∧ get fr 6 = .bool ch) ?_ (k := n + 1) ?_
 ·rintro kk fr st ⟨h, bs, ch, rfl, hsub, hatB, hI, hlt, hcl, g2, g5, g6⟩
  cases ch with
  | true =>
   have hlt' := hlt rfl
   simp [g2, g5, g6]
   refine DW_loop (fun kk' fr st => ∃ (k : Nat) (h : List O) (bs' : List Bool) (ch : Bool), k + kk' = n ∧ st = ⟨h, h0.length⟩ ∧ Sub hB h ∧ AtB h m (.cells (boolsC bs') 4 (some 0)) ∧ PcI G e bs' ∧ outN bs' n ≤ outN bs n ∧ (ch = true → outN bs' n < outN bs n) ∧ (ch = false → Cl G bs' k 0) ∧ get fr 2 = .pointer (some ⟨h0.length, 0, none⟩) ∧ get fr 5 = .slice (some ⟨m, 0, none⟩) n n ∧ get fr 6 = .bool ch ∧ get fr 7 = .int .i64 k) ?_ (k := n) ?_
   ·clear g2 g5 g6
    rintro kk' fr st ⟨k, h', bs', ch, hkk, rfl, hsub', hatB', hI', hle', hlt'', hcl', g2, g5, g6, g7⟩
    by_cases hk : k < n
    ·simp [g2, g5, g6, g7, hk]
     refine DW_loop (fun kk'' fr st => ∃ (j : Nat) (h : List O) (bs' : List Bool) (ch : Bool), j + kk'' = 4 ∧ st = ⟨h, h0.length⟩ ∧ Sub hB h ∧ AtB h m (.cells (boolsC bs') 4 (some 0)) ∧ PcI G e bs' ∧ outN bs' n ≤ outN bs n ∧ (ch = true → outN bs' n < outN bs n) ∧ (ch = false → Cl G bs' k j) ∧ get fr 2 = .pointer (some ⟨h0.length, 0, none⟩) ∧ get fr 5 = .slice (some ⟨m, 0, none⟩) n n ∧ get fr 6 = .bool ch ∧ get fr 7 = .int .i64 k ∧ get fr 8 = .int .i64 j) ?_ (k := 4) ?_
     ·clear g2 g5 g6 g7 hcl' hlt'' hle' hI' hatB' hsub'
      clear bs' h' ch
      rintro kk'' fr st ⟨j, h', bs', ch, hjk, rfl, hsub', hatB', hI', hle', hlt'', hcl', g2, g5, g6, g7, g8⟩
      have hat := hatB'
      unfold AtB at hat
      have hlen := hI'.len
      have hwk : IntKind.i64.wrap ((k : Int) + 1) = (k : Int) + 1 := by rw [w64_id] <;> omega
      have hwj : IntKind.i64.wrap ((j : Int) + 1) = (j : Int) + 1 := by rw [w64_id] <;> omega
      have hkb : k < bs'.length := by omega
      by_cases hj : j < 4
      ·have hj' : (j : Int) < 4 := by omega
       by_cases hb : bnth bs' k = true
       ·have hinV : InV G (k, j) := hG.inV (by rw [hGn]; exact hk) hj
        obtain ⟨o, ho⟩ : ∃ o, o = oth G (k, j) := ⟨_, rfl⟩
        have hnb := nb hG (c := k) (q := j) (by omega) hj
        have hot := hoth hinV
        rw [← ho] at hot hnb
        have ho1 : o.1 < n := by have := hnb.1; omega
        have hcs : CrossP h' a n x s := hx.sub (sB.trans hsub')
        have hb2 : h'[h0.length]? = some (O.cells [.slice a n c, .int .i64 L] 24 (some 0)) := hsub' _ _ bB
        obtain ⟨h1, hh1⟩ : ∃ H, H = h' ++ [O.cells [.int .i64 o.1, .int .i64 o.2] 72 (some 0)] := ⟨_, rfl⟩
        have s1 : Sub h' h1 := by rw [hh1]; exact (Sub.refl _).app _
        have b1 : h1[h'.length]? = some (O.cells [.int .i64 o.1, .int .i64 o.2] 72 (some 0)) := by rw [hh1, app_at0]; rfl
        have hat1 := s1 _ _ hat
        have hsl := hsub'.len
        have hmin : min h0.length h'.length = h0.length := by omega
        have hminm : min h0.length m = h0.length := by omega
        have hob : o.1 < bs'.length := by omega
        have hob1 : o.1 + 1 ≤ n := by omega
        by_cases hin : bnth bs' o.1 = true
        ·simp [g2, g5, g6, g7, g8, hj', rd_def, rdN_def, hat, boolsC_get hkb, hb, hk, hb2, DC_when hot, hcs, joined_fl, wrN_at0, set_at0, hmin, ← hh1, hat1, b1, boolsC_get hob, hin, ho1, hwj]
         refine ⟨kk'' - 1, by omega, j + 1, by omega, fun b o hb => s1 _ _ (hsub' _ _ hb), bs', hat1, hI', hle', ?_⟩
         cases ch with
         | true => exact .inr ⟨hlt'' rfl, rfl, by omega⟩
         | false => exact .inl ⟨(hcl' rfl).step (by rw [← ho]; exact hin), rfl, by omega⟩
        ·have hin' : bnth bs' o.1 = false := by simpa using hin
         simp [g2, g5, g6, g7, g8, hj', rd_def, rdN_def, wrN_def, hat, boolsC_get hkb, hb, hk, hb2, DC_when hot, hcs, joined_fl, wrN_at0, set_at0, hmin, ← hh1, hat1, b1, boolsC_get hob, hin', ho1, hwj, boolsC_set, hlen, hob1, hminm, hGn]
         have hlt3 := outN_set (n := n) (by omega) ho1 hin'
         refine ⟨kk'' - 1, by omega, j + 1, by omega, (hsub'.trans s1).set (by omega) _, bs'.set o.1 true, set_self hat1, ?_, by omega, by omega, by omega⟩
         rw [ho]
         exact hI'.set hG (by omega) hj hb
       ·have hb' : bnth bs' k = false := by simpa using hb
        simp [g2, g5, g6, g7, g8, hj', rd_def, hat, boolsC_get hkb, hb', hk, hwk]
        refine ⟨kk' - 1, by omega, k + 1, by omega, hsub', bs', hatB', hI', hle', ?_⟩
        cases ch with
        | true => exact .inr ⟨hlt'' rfl, rfl, by omega⟩
        | false => exact .inl ⟨(hcl' rfl).next (.inl hb'), rfl, by omega⟩
      ·have hj' : ¬ (j : Int) < 4 := by omega
       simp [g2, g5, g6, g7, g8, hj', hwk]
       refine ⟨kk' - 1, by omega, k + 1, by omega, hsub', bs', hatB', hI', hle', ?_⟩
       cases ch with
       | true => exact .inr ⟨hlt'' rfl, rfl, by omega⟩
       | false => exact .inl ⟨(hcl' rfl).next (.inr (by omega)), rfl, by omega⟩
     ·refine ⟨0, h', bs', ch, by omega, rfl, hsub', hatB', hI', hle', hlt'', hcl', ?_⟩
      simp [g2, g5, g6, g7]
    ·have hkn : k = n := by omega
     simp [g2, g5, g6, g7, hk]
     refine ⟨outN bs n, hlt', hsub', bs', hatB', hI', ?_⟩
     cases ch with
     | true => exact .inr ⟨hlt'' rfl, rfl⟩
     | false => exact .inl ⟨by rw [← hkn]; exact hcl' rfl, rfl⟩
   ·refine ⟨0, h, bs, false, by omega, rfl, hsub, hatB, hI, Nat.le_refl _, fun h => (by cases h), fun _ k' q _ _ h => (by omega), ?_⟩
    simp [g2, g5]
  | false =>
   have hclo := hcl rfl
   have hat := hatB
   unfold AtB at hat
   have hlen := hI.len
   have hsl := hsub.len
   have hml := (List.getElem?_eq_some_iff.1 hat).1
   simp [g2, g5, g6]
   refine DW_loop (fun kk' fr st => ∃ (i : Nat) (h' : List O) (v : Value), i + kk' = n ∧ st = ⟨h', h0.length⟩ ∧ Sub h h' ∧ OwnT h' h.length v ((List.range i).filter (fun i => bnth bs i)).length (intsC (((List.range i).filter (fun i => bnth bs i)).map Int.ofNat)) 3 1 ∧ get fr 5 = .slice (some ⟨m, 0, none⟩) n n ∧ get fr 10 = v ∧ get fr 11 = .int .i64 i) ?_ (k := n) ?_
   ·clear g2 g5 g6
    rintro kk' fr st ⟨i, h', v, hik, rfl, hsub', hT, g5, g10, g11⟩
    have hat' := hsub' _ _ hat
    have hw : IntKind.i64.wrap ((i : Int) + 1) = (i : Int) + 1 := by rw [w64_id] <;> omega
    by_cases hi : i < n
    ·have hib : i < bs.length := by omega
     have hfl := List.length_filter_le (fun i => bnth bs i) (List.range i)
     rw [List.length_range] at hfl
     by_cases hb : bnth bs i = true
     ·have hsl' := hsub'.len
      obtain ⟨h3, hh3⟩ : ∃ H, H = h' ++ [O.cells [.int .i64 i] 3 (some 0)] := ⟨_, rfl⟩
      have s3 : Sub h' h3 := by rw [hh3]; exact (Sub.refl _).app _
      have hl3 := s3.len
      have hrd : readSlice h3 1 1 (some ⟨h'.length, 0, none⟩) = some [.int .i64 i] := slice_read (by rw [hh3, app_at0]; rfl) rfl
      obtain ⟨b', h4, f4, happ, hb', hT4, hf4, hf4', hl4, hk4⟩ := append_T (fl := h0.length) (c := 1) (bytes := 8) (hT.keep (h' := h3) fun b s _ _ e => s3 _ _ e) hrd rfl rfl (by omega) (by simp only [roomMax]; omega) (by omega)
      have hf : f4 = h0.length := by omega
      simp [g5, g10, g11, hi, rd_def, hat', boolsC_get hib, hb, ← hh3, happ, hf, hw]
      have hfs : (List.range (i + 1)).filter (fun i => bnth bs i) = (List.range i).filter (fun i => bnth bs i) ++ [i] := by
       rw [List.range_succ, List.filter_append]; simp [hb]
      refine ⟨kk' - 1, by omega, i + 1, by omega, fun b o hb => hk4 b o (s3 _ _ (hsub' _ _ hb)) (.inl (List.getElem?_eq_some_iff.1 hb).1), _, ?_, rfl, by omega⟩
      rw [hfs, List.map_append, List.length_append]
      simp only [intsC, List.map_append] at hT4 ⊢
      exact hT4
     ·have hb' : bnth bs i = false := by simpa using hb
      simp [g5, g10, g11, hi, rd_def, hat', boolsC_get hib, hb', hw]
      have hfs : (List.range (i + 1)).filter (fun i => bnth bs i) = (List.range i).filter (fun i => bnth bs i) := by
       rw [List.range_succ, List.filter_append]; simp [hb']
      exact ⟨kk' - 1, by omega, i + 1, by omega, hsub', v, by rw [hfs]; exact hT, rfl, by omega⟩
    ·have hin : i = n := by omega
     subst hin
     simp [g5, g10, g11, endK_ret]
     have hfe : (List.range i).filter (fun i => bnth bs i) = (List.range i).filter (fun i => decide (Conn G e i)) := by
      refine List.filter_congr fun j hj => ?_
      rw [List.mem_range] at hj
      rw [Bool.eq_iff_iff, decide_eq_true_iff]
      exact Cl.iff hG hI (by omega) (by rw [hGn]; exact hclo) (by omega)
     rw [hfe] at hT
     have hT0 := hT.low (lo' := h0.length) (by omega)
     unfold pairQ back
     split
     ·rename_i hc
      rw [Bool.and_eq_true] at hc
      exact ⟨v, rfl, Nat.le_refl _, Sub.refl _, hT0.scalar hc.1 _⟩
     ·exact ⟨v, rfl, Nat.le_refl _, sB.trans (hsub.trans hsub'), hT0⟩
   ·refine ⟨0, h, emptyS, by omega, rfl, Sub.refl _, .inl ⟨rfl, by simp, by simp [intsC]⟩, ?_⟩
    simp [g5]
 ·refine ⟨_, (List.replicate n false).set e true, true, rfl, ?_, ?_, ⟨?_, ?_, fun i hi => ?_⟩, fun _ => ?_, fun h => (by cases h), ?_⟩
  ·rw [hhB]
   exact Ext.sub ⟨[O.cells (boolsC ((List.replicate n false).set e true)) 4 (some 0)], by simp⟩
  ·unfold AtB
   rw [hm, app_at]
   simp
  ·simp [hGn]
  ·rw [bnth_set (by simp; omega), if_pos rfl]
  ·rw [bnth_set (by simp; omega)]
   split
   ·rename_i e'
    intro _; rw [e']; exact .refl _
   ·rw [bnth_rep (by omega)]
    intro h; cases h
  ·have := cntP_le (fun i => bnth ((List.replicate n false).set e true) i = false) n
   unfold outN; omega
  ·simp
end Go.Proofs.Ytjlkndkedknocaa
namespace Go.Ai
attribute [local instance] Classical.propDecidable
theorem filter_cnt (p : Nat → Prop) : ∀ n, ((List.range n).filter fun i => decide (p i)).length = cntP p n := by
 intro n
 induction n with
 | zero => rfl
 | succ n ih =>
  rw [List.range_succ, List.filter_append, List.length_append, ih]
  simp only [cntP]
  by_cases h : p n
  ·simp [h]
  ·simp [h]
end Go.Ai
namespace Go.Proofs.Ytjlkndkedknocaa
open Go Go.Ai
attribute [local instance] Classical.propDecidable
noncomputable def pieceL (G : Dg) (c : Nat) : List Nat := (List.range G.n).filter fun i => decide (Conn G c i)
theorem pieceL_mem {G : Dg} {c i : Nat} : i ∈ pieceL G c ↔ i < G.n ∧ Conn G c i := by simp [pieceL]
theorem pieceL_len (G : Dg) (c : Nat) : (pieceL G c).length = cntP (fun i => Conn G c i) G.n := filter_cnt _ _
theorem pieceL_nodup (G : Dg) (c : Nat) : (pieceL G c).Nodup := List.nodup_range.filter _
theorem pieceL_conn {G : Dg} (hG : GoodG G) {c d : Nat} (hc : c < G.n) (h : Conn G c d) : pieceL G d = pieceL G c := by
 unfold pieceL
 refine List.filter_congr fun i hi => ?_
 rw [Bool.eq_iff_iff, decide_eq_true_iff, decide_eq_true_iff]
 exact ⟨fun k => h.trans k, fun k => (h.symm hG hc).trans k⟩
def PlanC (G : Dg) (c : Nat) : Prop := cntP (fun t => Conn G c (rhead G t)) (regs G).length = 2 + cntP (fun i => Conn G c i) G.n
theorem planC_conn {G : Dg} (hG : GoodG G) {c d : Nat} (hc : c < G.n) (h : Conn G c d) : PlanC G d ↔ PlanC G c := by
 have e : ∀ i, Conn G d i ↔ Conn G c i := fun i => ⟨fun k => h.trans k, fun k => (h.symm hG hc).trans k⟩
 unfold PlanC
 rw [cntP_congr fun t _ => e (rhead G t), cntP_congr fun i _ => e i]
theorem plan_heads {G : Dg} (hG : GoodG G) : PlanG G ↔ ∀ c, c < G.n → (pieceL G c)[0]? = some c → PlanC G c := by
 constructor
 ·intro h c hc _; exact h c hc
 ·intro h c hc
  have hm : c ∈ pieceL G c := pieceL_mem.2 ⟨hc, .refl _⟩
  obtain ⟨d, l, hl⟩ : ∃ d l, pieceL G c = d :: l := by
   cases hp : pieceL G c with
   | nil => rw [hp] at hm; cases hm
   | cons d l => exact ⟨d, l, rfl⟩
  have hd : d ∈ pieceL G c := by rw [hl]; exact List.mem_cons_self
  obtain ⟨d1, d2⟩ := pieceL_mem.1 hd
  refine (planC_conn hG hc d2).1 (h d d1 ?_)
  rw [pieceL_conn hG hc d2, hl]; rfl
def natsC (l : List Nat) : List Value := l.map fun i => .int .i64 (i : Nat)
theorem natsC_eq (l : List Nat) : intsC (l.map Int.ofNat) = natsC l := by simp [intsC, natsC]
theorem natsC_get {l : List Nat} {i a : Nat} (h : l[i]? = some a) : (natsC l)[i]? = some (.int .i64 a) := by simp [natsC, h]
variable {E : Env} (hE : OE E)
include hE
theorem planar_ {h0 : List O} {a : Option Addr} {n c : Nat} {x : Nat → Nat → Int} {s : Nat → Int} {L : Int} (hx : CrossP h0 a n x s) (hS : Snd n x s L) :
  DR E 135 [dV a n c L] ⟨h0, h0.length⟩ (.ret (.bool (decide (PlanG (dgOf n x s L))))) ⟨h0, h0.length⟩ := by
 refine hE.fn (body := rb135) rfl ?_
 unfold rb135
 have hG := good_of hS
 obtain ⟨hB, hhB⟩ : ∃ H, H = h0 ++ [O.cells [.slice a n c, .int .i64 L] 24 (some 0)] := ⟨_, rfl⟩
 have lB : hB.length = h0.length + 1 := by rw [hhB]; simp
 have sB : Sub h0 hB := by rw [hhB]; exact (Sub.refl _).app _
 have bB : hB[h0.length]? = some (O.cells [.slice a n c, .int .i64 L] 24 (some 0)) := by rw [hhB, app_at0]; rfl
 have hxB : CrossP hB a n x s := hx.sub sB
 have hreg := regionsR_ hE (c := c) hxB hS
 have hpie := fun {e : Nat} (he : e < n) h k => piece_ hE (h0 := h) (a := a) (x := x) (c := c) k hS he
 simp only [dV] at hpie hreg
 obtain ⟨G, hGe⟩ : ∃ G, G = dgOf n x s L := ⟨_, rfl⟩
 rw [← hGe] at hG hreg ⊢
 simp only [← hGe] at hpie
 have hGn : G.n = n := by rw [hGe]; rfl
 have hpl : ∀ e, (List.range n).filter (fun i => decide (Conn G e i)) = pieceL G e := fun e => by unfold pieceL; rw [hGn]
 simp only [hpl] at hpie
 have hsz := hG.size
 rw [hGn] at hsz
 have hbad : ∀ h' f, h0.length ≤ f → ¬ PlanG G → pairQ (back ⟨h0, h0.length⟩ (.ret (.bool false)) ⟨h', f⟩) fun o2 st2 => o2 = .ret (.bool (decide (PlanG G))) ∧ st2 = ⟨h0, h0.length⟩ := fun h' f hf hm => by
  unfold pairQ
  rw [back_scalar (by simp [Out.scalar, scalar, flat1, flat]) hf]
  simp [hm]
 have hgood : ∀ h' f, h0.length ≤ f → PlanG G → pairQ (back ⟨h0, h0.length⟩ (.ret (.bool true)) ⟨h', f⟩) fun o2 st2 => o2 = .ret (.bool (decide (PlanG G))) ∧ st2 = ⟨h0, h0.length⟩ := fun h' f hf hm => by
  unfold pairQ
  rw [back_scalar (by simp [Out.scalar, scalar, flat1, flat]) hf]
  simp [hm]
 simp [dV, rdN_at0]
 rw [← hhB, ← lB]
 refine hreg.imp ?_
 rintro o ⟨h1, f1⟩ ⟨v, rfl, hf1, hs1, hR⟩
 simp only at hf1 hs1 hR
 obtain ⟨ra, rfl, hat⟩ := hR.at_
 obtain ⟨R, hRe⟩ : ∃ R, R = (regs G).length := ⟨_, rfl⟩
 have hRl : R ≤ 4 * n := by rw [hRe, ← hGn]; exact regs_len
 have hb1 := hs1 _ _ bB
 simp [joined_fl, hf1]
 rw [← hRe]
 refine DW_loop (fun kk fr st => ∃ (i : Nat) (h : List O), i + kk = n ∧ st = ⟨h, h0.length⟩ ∧ Sub h1 h ∧ (∀ c, c < i → (pieceL G c)[0]? = some c → PlanC G c) ∧ get fr 1 = .pointer (some ⟨h0.length, 0, none⟩) ∧ get fr 3 = .slice ra R R ∧ get fr 4 = .int .i64 i) ?_ (k := n) ?_
 ·rintro kk fr st ⟨i, h, hik, rfl, hsub, hP, g1, g3, g4⟩
  have hb2 := hsub _ _ hb1
  by_cases hi : i < n
  ·have hw : IntKind.i64.wrap ((i : Int) + 1) = (i : Int) + 1 := by rw [w64_id] <;> omega
   have hpc := hpie hi h (hx.sub (sB.trans (hs1.trans hsub)))
   simp [g1, g3, g4, hi, rd_def, rdN_def, hb2]
   refine hpc.imp ?_
   rintro o ⟨h2, f2⟩ ⟨v, l, rfl, hf2, hs2, rfl, hT⟩
   simp only at hf2 hs2 hT
   rw [natsC_eq] at hT
   obtain ⟨pa, rfl, hpa⟩ := hT.look
   have him : i ∈ pieceL G i := pieceL_mem.2 ⟨by omega, .refl _⟩
   obtain ⟨N, hN⟩ : ∃ N, N = (pieceL G i).length := ⟨_, rfl⟩
   have hN0 : 0 < N := by rw [hN]; exact List.length_pos_of_mem him
   have hNn : N ≤ n := by rw [hN, pieceL_len, ← hGn]; exact cntP_le _ _
   rw [← hN] at hpa
   obtain ⟨pb, ps, rfl, hpb, hpc⟩ := hpa hN0
   obtain ⟨d, hd⟩ : ∃ d, (pieceL G i)[0]? = some d := ⟨_, List.getElem?_eq_getElem (by omega)⟩
   have hd' := natsC_get hd
   have hl2 := hs2.len
   by_cases hdi : d = i
   ·rw [hdi] at hd hd'
    obtain ⟨l, hl⟩ : ∃ l, l = pieceL G i := ⟨_, rfl⟩
    have hnd : l.Nodup := by rw [hl]; exact pieceL_nodup G i
    have hmem : ∀ t, t < R → (rhead G t ∈ l ↔ Conn G i (rhead G t)) := fun t ht => by
     rw [hl, pieceL_mem]
     exact ⟨fun h => h.2, fun h => ⟨rhead_lt hG (by omega), h⟩⟩
    rw [← hl] at hN hpc hd hd'
    simp [joined_fl, hf2, g1, g3, g4, rd_def, hpc, hd', hN0, ← hl, ← hN]
    refine DW_loop (fun kk' fr st => ∃ (t : Nat), t + kk' = R ∧ st = ⟨h2, h0.length⟩ ∧ get fr 1 = .pointer (some ⟨h0.length, 0, none⟩) ∧ get fr 3 = .slice ra R R ∧ get fr 4 = .int .i64 i ∧ get fr 5 = .slice (some ⟨pb, 0, none⟩) N N ∧ get fr 6 = .int .i64 (cntP (fun t => Conn G i (rhead G t)) t) ∧ get fr 7 = .int .i64 t) ?_ (k := R) ?_
    ·clear g1 g3 g4
     rintro kk' fr st ⟨t, htk, rfl, g1, g3, g4, g5, g6, g7⟩
     have hcl := cntP_le (fun t => Conn G i (rhead G t)) t
     obtain ⟨F, hF⟩ : ∃ F, F = cntP (fun t => Conn G i (rhead G t)) t := ⟨_, rfl⟩
     rw [← hF] at g6 hcl
     by_cases ht : t < R
     ·have hwt : IntKind.i64.wrap ((t : Int) + 1) = (t : Int) + 1 := by rw [w64_id] <;> omega
      obtain ⟨e, r, he, hre, her, hrh⟩ := regs_at hG (t := t) (by omega)
      obtain ⟨b, b', s1, s2, vs, hra, q1, q2, q3, q4, q5⟩ := hat t (e :: r) hre (by simp)
      have q3' := hs2 _ _ (hsub _ _ q3)
      have q5' := hs2 _ _ (hsub _ _ q5)
      have q5c : cellsL (e :: r) = .int .i64 e.1 :: .int .i64 e.2 :: cellsL r := rfl
      rw [q5c] at q5'
      simp [g1, g3, g4, g5, g6, g7, ht]
      refine DW_loop (fun kk'' fr st => ∃ (j : Nat), j + kk'' = N ∧ st = ⟨h2, h0.length⟩ ∧ get fr 1 = .pointer (some ⟨h0.length, 0, none⟩) ∧ get fr 3 = .slice ra R R ∧ get fr 4 = .int .i64 i ∧ get fr 5 = .slice (some ⟨pb, 0, none⟩) N N ∧ get fr 6 = .int .i64 (F + (if rhead G t ∈ l.take j then 1 else 0 : Nat)) ∧ get fr 7 = .int .i64 t ∧ get fr 8 = .int .i64 j) ?_ (k := N) ?_
      ·clear g1 g3 g4 g5 g6 g7
       rintro kk'' fr st ⟨j, hjk, rfl, g1, g3, g4, g5, g6, g7, g8⟩
       by_cases hj : j < N
       ·have hwj : IntKind.i64.wrap ((j : Int) + 1) = (j : Int) + 1 := by rw [w64_id] <;> omega
        obtain ⟨p, hp⟩ : ∃ p, l[j]? = some p := ⟨_, List.getElem?_eq_getElem (by omega)⟩
        have hp' := natsC_get hp
        have htk2 : l.take (j + 1) = l.take j ++ [p] := by rw [List.take_add_one, hp]; rfl
        have hnt : p ∉ l.take j := fun hm => by
         have h1 : (l.take (j + 1)).Nodup := hnd.sublist (List.take_sublist _ _)
         rw [htk2, List.nodup_append] at h1
         exact h1.2.2 p hm p (by simp) rfl
        by_cases hpe : e.1 = p
        ·have hif0 : rhead G t ∉ l.take j := by rw [hrh, hpe]; exact hnt
         have hif1 : rhead G t ∈ l.take (j + 1) := by rw [hrh, hpe, htk2]; simp
         have hwF : IntKind.i64.wrap ((F : Int) + 1) = (F : Int) + 1 := by rw [w64_id] <;> omega
         rw [if_neg hif0] at g6
         simp [g1, g3, g4, g5, g6, g7, g8, hj, hra, rd_def, q3', q4, q5', hpc, hp', hpe, hwj, ht, hwF]
         exact ⟨kk'' - 1, by omega, j + 1, by omega, by rw [if_pos hif1]; rfl, by omega⟩
        ·have hpe' : ¬ (e.1 : Int) = p := by omega
         have hif : (rhead G t ∈ l.take (j + 1)) ↔ rhead G t ∈ l.take j := by rw [htk2, hrh]; simp [hpe]
         simp [g1, g3, g4, g5, g6, g7, g8, hj, hra, rd_def, q3', q4, q5', hpc, hp', hpe, hwj, ht]
         exact ⟨kk'' - 1, by omega, j + 1, by omega, by simp only [hif], by omega⟩
       ·have hjN : j = N := by omega
        subst hjN
        rw [show l.take j = l from List.take_of_length_le (by omega)] at g6
        simp [g1, g3, g4, g5, g6, g7, g8, hwt]
        refine ⟨kk' - 1, by omega, t + 1, by omega, ?_, by omega⟩
        simp only [cntP]
        rw [← hF]
        by_cases hc : rhead G t ∈ l
        ·rw [if_pos hc, if_pos ((hmem t ht).1 hc)]; omega
        ·rw [if_neg hc, if_neg (fun h => hc ((hmem t ht).2 h))]; omega
      ·refine ⟨0, by omega, rfl, ?_⟩
       simp [g1, g3, g4, g5, g6, g7]
     ·have htR : t = R := by omega
      have hwN : IntKind.i64.wrap ((N : Int) + 2) = (N : Int) + 2 := by rw [w64_id] <;> omega
      have hPC : PlanC G i ↔ F = 2 + N := by
       unfold PlanC
       rw [← hRe, ← htR, ← hF, ← pieceL_len, ← hl, ← hN]
      by_cases hFN : F = N + 2
      ·have hFN' : (F : Int) = N + 2 := by omega
       simp [g1, g3, g4, g5, g6, g7, ht, hwN, hFN, hw]
       refine ⟨kk - 1, by omega, i + 1, by omega, hsub.trans hs2, fun c hc hc2 => ?_, by omega⟩
       by_cases e : c = i
       ·subst e; exact hPC.2 (by omega)
       ·exact hP c (by omega) hc2
      ·have hFN' : ¬ (F : Int) = N + 2 := by omega
       simp [g1, g3, g4, g5, g6, g7, ht, hwN, hFN', hw]
       intro hPG
       have h3 := hPC.1 (hPG i (by omega))
       omega
    ·refine ⟨0, by omega, rfl, ?_⟩
     simp [g1, g3, g4, cntP]
   ·have hdi' : ¬ (d : Int) = i := by omega
    simp [joined_fl, hf2, g1, g3, g4, rd_def, hpc, hd', hN0, ← hN, hdi', hw]
    refine ⟨kk - 1, by omega, i + 1, by omega, hsub.trans hs2, fun c hc hc2 => ?_, by omega⟩
    by_cases e : c = i
    ·subst e; rw [hd] at hc2; exact absurd (Option.some.inj hc2) hdi
    ·exact hP c (by omega) hc2
  ·have hin : i = n := by omega
   subst hin
   simp [g1, g3, g4, rd_def, hb2, endK_ret]
   exact (plan_heads hG).2 (by rw [hGn]; exact hP)
 ·exact ⟨0, h1, by omega, rfl, Sub.refl _, fun c hc => by omega, by simp⟩
end Go.Proofs.Ytjlkndkedknocaa
namespace Go.Ai
attribute [local instance] Classical.propDecidable
theorem cntP_one {p : Nat → Prop} {n i : Nat} (hi : i < n) (hp : p i) (hu : ∀ j, j < n → p j → j = i) : cntP p n = 1 := by
 induction n with
 | zero => omega
 | succ n ih =>
  simp only [cntP]
  by_cases e : i = n
  ·subst e
   rw [if_pos hp, cntP_zero fun j hj hpj => by have := hu j (by omega) hpj; omega]
  ·have hn : ¬ p n := fun h => e (hu n (by omega) h).symm
   rw [if_neg hn, ih (by omega) fun j hj => hu j (by omega)]
theorem cntP_two {p : Nat → Prop} {n i j : Nat} (hij : i < j) (hj : j < n) (hi : p i) (hp : p j) : 2 ≤ cntP p n := by
 have h1 := cntP_pos hij hi
 have h2 := cntP_mono p (show j + 1 ≤ n by omega)
 simp only [cntP, if_pos hp] at h2
 omega
end Go.Ai
namespace Go.Proofs.Ytjlkndkedknocaa
open Go Go.Ai
attribute [local instance] Classical.propDecidable
noncomputable def useN (x : Nat → Nat → Int) (s : Nat → Int) (a : Nat) (b : Bool) (J : Nat) : Nat := cntP (fun k => use x s k = ((a : Int), b)) J
theorem snd_counts {n : Nat} {x : Nat → Nat → Int} {s : Nat → Int} {L : Int} (h1 : n ≤ 200) (h2 : 0 ≤ L ∧ L ≤ 200) (h3 : ∀ c, c < n → s c = 1 ∨ s c = -1) (h4 : ∀ j, j < 4 * n → 0 ≤ (use x s j).1 ∧ (use x s j).1 < 2 * n) :
  Snd n x s L ↔ ∀ a, a < 2 * n → useN x s a true (4 * n) = 1 ∧ useN x s a false (4 * n) = 1 := by
 constructor
 ·intro hS a ha
  have key : ∀ b, useN x s a b (4 * n) = 1 := fun b => by
   obtain ⟨j, hj, he⟩ := hS.onto ha b
   exact cntP_one hj he fun j' hj' he' => hS.inj hj' hj (he'.trans he.symm)
  exact ⟨key true, key false⟩
 ·intro hc
  refine ⟨h1, h2, h3, h4, fun j j' hjj hj' he => ?_⟩
  have hr := h4 j (by omega)
  have h5 := hc (use x s j).1.toNat (by omega)
  have key : 2 ≤ useN x s (use x s j).1.toNat (use x s j).2 (4 * n) := by
   refine cntP_two hjj hj' ?_ ?_
   ·exact Prod.ext (by show (use x s j).1 = _; omega) rfl
   ·rw [← he]; exact Prod.ext (by show (use x s j).1 = _; omega) rfl
  cases hb : (use x s j).2 with
  | true => rw [hb] at key; omega
  | false => rw [hb] at key; omega
theorem useN_le (x : Nat → Nat → Int) (s : Nat → Int) (a : Nat) (b : Bool) (J : Nat) : useN x s a b J ≤ J := cntP_le _ _
structure SI (n : Nat) (x : Nat → Nat → Int) (s : Nat → Int) (J : Nat) (bs es : List Int) : Prop where
 lb : bs.length = 2 * n
 le : es.length = 2 * n
 cb : ∀ a, a < 2 * n → nth bs a = useN x s a true J
 ce : ∀ a, a < 2 * n → nth es a = useN x s a false J
 rg : ∀ j, j < J → 0 ≤ (use x s j).1 ∧ (use x s j).1 < 2 * n
theorem SI.stepB {n J a : Nat} {x : Nat → Nat → Int} {s : Nat → Int} {bs es : List Int} (h : SI n x s J bs es) (ha : a < 2 * n) (hu : use x s J = ((a : Int), true)) : SI n x s (J + 1) (bs.set a (nth bs a + 1)) es := by
 refine ⟨by simp [h.lb], h.le, fun b hb => ?_, fun b hb => ?_, fun j hj => ?_⟩
 ·rw [nth_set (by rw [h.lb]; exact ha)]
  unfold useN
  simp only [cntP, hu]
  by_cases e : b = a
  ·subst e; rw [if_pos rfl, if_pos rfl, h.cb b hb]; rfl
  ·rw [if_neg e, if_neg (fun e' => e (by have := congrArg Prod.fst e'; simp at this; omega)), h.cb b hb]; rfl
 ·unfold useN
  simp only [cntP, hu]
  rw [if_neg (by simp), h.ce b hb]; rfl
 ·by_cases e : j = J
  ·subst e; rw [hu]; exact ⟨by simp only; omega, by simp only; omega⟩
  ·exact h.rg j (by omega)
theorem SI.stepE {n J a : Nat} {x : Nat → Nat → Int} {s : Nat → Int} {bs es : List Int} (h : SI n x s J bs es) (ha : a < 2 * n) (hu : use x s J = ((a : Int), false)) : SI n x s (J + 1) bs (es.set a (nth es a + 1)) := by
 refine ⟨h.lb, by simp [h.le], fun b hb => ?_, fun b hb => ?_, fun j hj => ?_⟩
 ·unfold useN
  simp only [cntP, hu]
  rw [if_neg (by simp), h.cb b hb]; rfl
 ·rw [nth_set (by rw [h.le]; exact ha)]
  unfold useN
  simp only [cntP, hu]
  by_cases e : b = a
  ·subst e; rw [if_pos rfl, if_pos rfl, h.ce b hb]; rfl
  ·rw [if_neg e, if_neg (fun e' => e (by have := congrArg Prod.fst e'; simp at this; omega)), h.ce b hb]; rfl
 ·by_cases e : j = J
  ·subst e; rw [hu]; exact ⟨by simp only; omega, by simp only; omega⟩
  ·exact h.rg j (by omega)
variable {E : Env} (hE : OE E)
include hE
theorem sound_ {h0 : List O} {a : Option Addr} {n c : Nat} {x : Nat → Nat → Int} {s : Nat → Int} {L : Int} (hx : CrossP h0 a n x s) :
  DR E 134 [dV a n c L] ⟨h0, h0.length⟩ (.ret (.bool (decide (Snd n x s L)))) ⟨h0, h0.length⟩ := by
 refine hE.fn (body := rb134) rfl ?_
 unfold rb134
 obtain ⟨hB, hhB⟩ : ∃ H, H = h0 ++ [O.cells [.slice a n c, .int .i64 L] 24 (some 0)] := ⟨_, rfl⟩
 have lB : hB.length = h0.length + 1 := by rw [hhB]; simp
 have sB : Sub h0 hB := by rw [hhB]; exact (Sub.refl _).app _
 have bB : hB[h0.length]? = some (O.cells [.slice a n c, .int .i64 L] 24 (some 0)) := by rw [hhB, app_at0]; rfl
 have hbad : ∀ h' f, h0.length ≤ f → ¬ Snd n x s L → pairQ (back ⟨h0, h0.length⟩ (.ret (.bool false)) ⟨h', f⟩) fun o2 st2 => o2 = .ret (.bool (decide (Snd n x s L))) ∧ st2 = ⟨h0, h0.length⟩ := fun h' f hf hm => by
  unfold pairQ
  rw [back_scalar (by simp [Out.scalar, scalar, flat1, flat]) hf]
  simp [hm]
 by_cases hn : 200 < n
 ·have hn' : (200 : Int) < n := by omega
  simp [dV, rd_at0, hn, hn']
  intro hS; have := hS.size; omega
 have hn' : ¬ (200 : Int) < n := by omega
 by_cases hL0 : L < 0
 ·simp [dV, rd_at0, hn, hn', hL0]
  intro hS; have := hS.loops; omega
 by_cases hL1 : 200 < L
 ·simp [dV, rd_at0, hn, hn', hL0, hL1]
  intro hS; have := hS.loops; omega
 have e0 : (0 : Int) ≤ 2 * n := by omega
 have e1 : 2 * (n : Int) * 8 ≤ 140737488355328 := by omega
 have e2 : 2 * (n : Int) < 4611686018427387904 := by omega
 have e3 : (2 * (n : Int)).toNat = 2 * n := by omega
 have hw0 : IntKind.i64.wrap (2 * (n : Int)) = 2 * n := by rw [w64_id] <;> omega
 simp [dV, rd_at0, hn, hn', hL0, hL1, e0, e1, e2, e3, hw0, List.append_assoc]
 obtain ⟨m, hm⟩ : ∃ m, m = h0.length + 1 := ⟨_, rfl⟩
 rw [← hm] at lB ⊢
 have hmin : min h0.length m = h0.length := by omega
 have hmin2 : min h0.length (m + 1) = h0.length := by omega
 refine DW_loop (fun kk fr st => ∃ (i : Nat) (h : List O) (bs es : List Int), i + kk = n ∧ st = ⟨h, h0.length⟩ ∧ Sub hB h ∧ AtB h m (.cells (intsC bs) 3 (some 0)) ∧ AtB h (m + 1) (.cells (intsC es) 3 (some 0)) ∧ SI n x s (4 * i) bs es ∧ (∀ c, c < i → s c = 1 ∨ s c = -1) ∧ get fr 1 = .pointer (some ⟨h0.length, 0, none⟩) ∧ get fr 3 = .int .i64 n ∧ get fr 4 = .slice (some ⟨m, 0, none⟩) (2 * n) (2 * n) ∧ get fr 5 = .slice (some ⟨m + 1, 0, none⟩) (2 * n) (2 * n) ∧ get fr 6 = .int .i64 i) ?_ (k := n) ?_
 ·rintro kk fr st ⟨i, h, bs, es, hik, rfl, hsub, hbB, heB, hI, hsg, g1, g3, g4, g5, g6⟩
  have hb2 := hsub _ _ bB
  by_cases hi : i < n
  ·obtain ⟨xb, xo, hxa, hxr⟩ := hx
   obtain rfl := hxa (by omega)
   obtain ⟨rq, rs⟩ := CrossP.reads hxr hi
   have hq4 := (sB.trans hsub).rd rs
   simp only [rd_def] at hq4
   by_cases hs1 : s i = 1 ∨ s i = -1
   ·have hcr := hxr i hi
    have huse : ∀ q, q < 4 → use x s (4 * i + q) = (x i q, outB (s i) q) := fun q hq => by
     unfold use
     rw [show (4 * i + q) / 4 = i by omega, show (4 * i + q) % 4 = q by omega]
    have hin := fun {q : Nat} (hq : q < 4) h => In_ hE (h := h) (x := x i) (s := s i) hs1 hq
    simp only [crossV] at hin
    have hs1c := hs1
    rcases hs1c with hp | hp
    all_goals
     simp [g1, g3, g4, g5, g6, hi, rd_def, hb2, hq4, hp]
     refine DW_loop (fun kk' fr st => ∃ (q : Nat) (h : List O) (bs es : List Int), q + kk' = 4 ∧ st = ⟨h, h0.length⟩ ∧ Sub hB h ∧ AtB h m (.cells (intsC bs) 3 (some 0)) ∧ AtB h (m + 1) (.cells (intsC es) 3 (some 0)) ∧ SI n x s (4 * i + q) bs es ∧ get fr 1 = .pointer (some ⟨h0.length, 0, none⟩) ∧ get fr 3 = .int .i64 n ∧ get fr 4 = .slice (some ⟨m, 0, none⟩) (2 * n) (2 * n) ∧ get fr 5 = .slice (some ⟨m + 1, 0, none⟩) (2 * n) (2 * n) ∧ get fr 6 = .int .i64 i ∧ get fr 7 = .int .i64 q) ?_ (k := 4) ?_
     ·clear g1 g3 g4 g5 g6 hI hbB heB hb2 hq4 hsub
      clear bs es h
      rintro kk' fr st ⟨q, h, bs, es, hqk, rfl, hsub, hbB, heB, hI, g1, g3, g4, g5, g6, g7⟩
      have hb2 := hsub _ _ bB
      have hbB' := hbB
      have heB' := heB
      unfold AtB at hbB' heB'
      by_cases hq : q < 4
      ·have hq' : (q : Int) < 4 := by omega
       have hwq : IntKind.i64.wrap ((q : Int) + 1) = (q : Int) + 1 := by rw [w64_id] <;> omega
       have hr := (sB.trans hsub).rd (rq q hq)
       have hc5 := (sB.trans hsub).rdN hcr
       simp only [rd_def] at hr
       rw [rdN_def] at hc5
       simp only [crossC] at hc5
       by_cases h1 : x i q < 0
       ·simp [g1, g3, g4, g5, g6, g7, hq', rd_def, hb2, hi, hr, h1, endK_ret]
        intro hS
        have := hS.range (4 * i + q) (by omega)
        rw [huse q hq] at this
        simp only at this
        omega
       by_cases h2 : 2 * (n : Int) ≤ x i q
       ·simp [g1, g3, g4, g5, g6, g7, hq', rd_def, hb2, hi, hr, h1, h2, hw0, endK_ret]
        intro hS
        have := hS.range (4 * i + q) (by omega)
        rw [huse q hq] at this
        simp only at this
        omega
       obtain ⟨e, he⟩ : ∃ e : Nat, x i q = e := ⟨(x i q).toNat, by omega⟩
       have hen : e < 2 * n := by omega
       have hen' : (e : Int) < 2 * n := by omega
       have hen2 : e + 1 ≤ 2 * n := by omega
       have h2' : ¬ 2 * (n : Int) ≤ e := by omega
       have h1' : ¬ (e : Int) < 0 := by omega
       have hu := huse q hq
       rw [he] at hu hr
       have hlb := hI.lb
       have hle := hI.le
       have heb : e < bs.length := by omega
       have hee : e < es.length := by omega
       have hcb := hI.cb e hen
       have hce := hI.ce e hen
       have hub := useN_le x s e true (4 * i + q)
       have hue := useN_le x s e false (4 * i + q)
       have hwb : IntKind.i64.wrap (nth bs e + 1) = nth bs e + 1 := by rw [w64_id] <;> omega
       have hwe : IntKind.i64.wrap (nth es e + 1) = nth es e + 1 := by rw [w64_id] <;> omega
       cases hob : outB (s i) q with
       | true =>
        rw [hob] at hu
        have hin' := fun h => hin hq h
        rw [hob] at hin'
        rw [hp] at hin' hc5
        simp [g1, g3, g4, g5, g6, g7, hq', rd_def, rdN_def, wrN_def, hb2, hi, hr, h1', h2', hw0, hc5, DC_q hin', hbB', heB', hen', intsC_get heb, intsC_get hee, hwb, hwe, hlb, hle, intsC_set, hen2, hwq, hmin, hmin2]
        refine ⟨kk' - 1, by omega, q + 1, by omega, hsub.set (by omega) _, _, set_self hbB', es, set_ne heB' (by omega), hI.stepB hen hu, by omega⟩
       | false =>
        rw [hob] at hu
        have hin' := fun h => hin hq h
        rw [hob] at hin'
        rw [hp] at hin' hc5
        simp [g1, g3, g4, g5, g6, g7, hq', rd_def, rdN_def, wrN_def, hb2, hi, hr, h1', h2', hw0, hc5, DC_q hin', hbB', heB', hen', intsC_get heb, intsC_get hee, hwb, hwe, hlb, hle, intsC_set, hen2, hwq, hmin, hmin2]
        refine ⟨kk' - 1, by omega, q + 1, by omega, hsub.set (by omega) _, bs, set_ne hbB' (by omega), _, set_self heB', hI.stepE hen hu, by omega⟩
      ·have hq4 : q = 4 := by omega
       subst hq4
       have hw : IntKind.i64.wrap ((i : Int) + 1) = (i : Int) + 1 := by rw [w64_id] <;> omega
       simp [g1, g3, g4, g5, g6, g7, hw]
       refine ⟨kk - 1, by omega, i + 1, by omega, hsub, bs, hbB, es, heB, by rw [Nat.mul_add]; exact hI, fun c hc => ?_, by omega⟩
       by_cases e : c = i
       ·rw [e]; exact hs1
       ·exact hsg c (by omega)
     ·refine ⟨0, h, bs, es, by omega, rfl, hsub, hbB, heB, hI, ?_⟩
      simp [g1, g3, g4, g5, g6]
   ·have hs1' : ¬ s i = 1 := fun h => hs1 (.inl h)
    have hs2' : ¬ s i = -1 := fun h => hs1 (.inr h)
    simp [g1, g3, g4, g5, g6, hi, rd_def, hb2, hq4, hs1', hs2', endK_ret]
    exact fun hS => hs1 (hS.sign i hi)
  ·have hin : i = n := by omega
   subst hin
   simp [g1, g3, g4, g5, g6, rd_def, hb2]
   have hbB' := hbB
   have heB' := heB
   unfold AtB at hbB' heB'
   have hcnt := snd_counts (L := L) (by omega) (by omega) hsg hI.rg
   have hlb := hI.lb
   have hle := hI.le
   refine DW_loop (fun kk fr st => ∃ (e : Nat), e + kk = 2 * i ∧ st = ⟨h, h0.length⟩ ∧ (∀ a, a < e → useN x s a true (4 * i) = 1 ∧ useN x s a false (4 * i) = 1) ∧ get fr 3 = .int .i64 i ∧ get fr 4 = .slice (some ⟨m, 0, none⟩) (2 * i) (2 * i) ∧ get fr 5 = .slice (some ⟨m + 1, 0, none⟩) (2 * i) (2 * i) ∧ get fr 9 = .int .i64 e) ?_ (k := 2 * i) ?_
   ·clear g1 g3 g4 g5 g6
    rintro kk fr st ⟨e, hek, rfl, hP, g3, g4, g5, g9⟩
    by_cases he : e < 2 * i
    ·have he' : (e : Int) < 2 * i := by omega
     have heb : e < bs.length := by omega
     have hee : e < es.length := by omega
     have hw : IntKind.i64.wrap ((e : Int) + 1) = (e : Int) + 1 := by rw [w64_id] <;> omega
     have hcb := hI.cb e he
     have hce := hI.ce e he
     by_cases h1 : nth bs e = 1
     ·by_cases h2 : nth es e = 1
      ·simp [g3, g4, g5, g9, he', hw0, rd_def, hbB', heB', intsC_get heb, intsC_get hee, h1, h2, hw]
       refine ⟨kk - 1, by omega, e + 1, by omega, fun a ha => ?_, by omega⟩
       by_cases e' : a = e
       ·rw [e']; omega
       ·exact hP a (by omega)
      ·simp [g3, g4, g5, g9, he', hw0, rd_def, hbB', heB', intsC_get heb, intsC_get hee, h1, h2, hw, endK_ret]
       intro hS
       have := (hcnt.1 hS e he).2
       omega
     ·simp [g3, g4, g5, g9, he', hw0, rd_def, hbB', heB', intsC_get heb, intsC_get hee, h1, hw, endK_ret]
      intro hS
      have := (hcnt.1 hS e he).1
      omega
    ·have he' : ¬ (e : Int) < 2 * i := by omega
     simp [g3, g4, g5, g9, he', hw0, endK_ret]
     exact hcnt.2 fun a ha => hP a (by omega)
   ·exact ⟨0, by omega, rfl, fun a ha => by omega, by simp [g3, g4, g5]⟩
 ·refine ⟨0, h0 ++ [O.cells [.slice a n c, .int .i64 L] 24 (some 0), O.cells (rep (2 * n) [.int .i64 0]) 3 (some 0), O.cells (rep (2 * n) [.int .i64 0]) 3 (some 0)], List.replicate (2 * n) 0, List.replicate (2 * n) 0, by omega, rfl, ?_, ?_, ?_, ⟨by simp, by simp, ?_, ?_, fun j hj => by omega⟩, fun c hc => by omega, ?_⟩
  ·rw [hhB]; exact Ext.sub ⟨[O.cells (rep (2 * n) [.int .i64 0]) 3 (some 0), O.cells (rep (2 * n) [.int .i64 0]) 3 (some 0)], by simp⟩
  ·unfold AtB
   rw [hm, app_at]; simp [rep, intsC]
  ·unfold AtB
   rw [hm, Nat.add_assoc, app_at]; simp [rep, intsC]
  ·intro a ha; simp [nth, useN, cntP, ha]
  ·intro a ha; simp [nth, useN, cntP, ha]
  ·simp [hm]
end Go.Proofs.Ytjlkndkedknocaa
namespace Go.Proofs.Ytjlkndkedknocaa
open Go Go.Ai
attribute [local instance] Classical.propDecidable
variable {E : Env} (hE : OE E)
include hE
theorem checkR_ {h0 : List O} {a : Option Addr} {n c : Nat} {x : Nat → Nat → Int} {s : Nat → Int} {L : Int} (hx : CrossP h0 a n x s) :
  DR E 58 [dV a n c L] ⟨h0, h0.length⟩ (.ret (.int .i64 (kindD n x s L))) ⟨h0, h0.length⟩ := by
 refine hE.fn (body := rb58) rfl ?_
 unfold rb58
 have hc : ∀ l, CrossP (h0 ++ l) a n x s := fun l => hx.ext (Ext.snoc h0 l)
 have h1 := fun h k => sound_ hE (h0 := h) (a := a) (x := x) (c := c) (L := L) (n := n) (s := s) k
 by_cases hS : Snd n x s L
 ·have h2 := fun h k => planar_ hE (h0 := h) (a := a) (x := x) (c := c) k hS
  by_cases hP : PlanG (dgOf n x s L)
  ·simp only [dV, decide_eq_true hS, decide_eq_true hP] at h1 h2
   simp [dV, rdN_at0, DC_when h1, DC_when h2, hc, joined_fl, kindD, hS, hP]
  ·simp only [dV, decide_eq_true hS, decide_eq_false hP] at h1 h2
   simp [dV, rdN_at0, DC_when h1, DC_when h2, hc, joined_fl, kindD, hS, hP]
 ·simp only [dV, decide_eq_false hS] at h1
  simp [dV, rdN_at0, DC_when h1, hc, joined_fl, kindD, hS]
end Go.Proofs.Ytjlkndkedknocaa
namespace Go.Proofs.Ytjlkndkedknocaa
open Go Go.Ai
attribute [local instance] Classical.propDecidable
variable {E : Env} (hE : OE E)
include hE
theorem meridianR_ {h0 : List O} {a : Option Addr} {n c : Nat} {x : Nat → Nat → Int} {s : Nat → Int} {L : Int} (hx : CrossP h0 a n x s) (k : Int) :
  DR E 73 [dV a n c L, .int .i64 k] ⟨h0, h0.length⟩ (.ret (if kindD n x s L ≠ 0 then .tuple #[.int .i64 0, .int .i64 (kindD n x s L)] else if 0 ≤ k ∧ k < cpK (dgOf n x s L) + L then .tuple #[.int .i64 (merD (dgOf n x s L) k), .int .i64 0] else .tuple #[.int .i64 0, .int .i64 1])) ⟨h0, h0.length⟩ := by
 refine hE.fn (body := rb73) rfl ?_
 unfold rb73
 have hsc : ∀ y z : Int, (Out.ret (.tuple #[.int .i64 y, .int .i64 z])).scalar = true := fun _ _ => rfl
 obtain ⟨h1, hh1⟩ : ∃ H, H = h0 ++ [O.cells [.slice a n c, .int .i64 L] 24 (some 0)] := ⟨_, rfl⟩
 have l1 : h1.length = h0.length + 1 := by rw [hh1]; simp
 have s1 : Sub h0 h1 := by rw [hh1]; exact (Sub.refl _).app _
 have b0 : h1[h0.length]? = some (O.cells [.slice a n c, .int .i64 L] 24 (some 0)) := by rw [hh1, app_at0]; rfl
 have hx1 := hx.sub s1
 have hc1 := checkR_ hE (c := c) (L := L) hx1
 have hj1 : joined ⟨h1, h0.length⟩ ⟨h1, h1.length⟩ = ⟨h1, h0.length⟩ := joined_mk _ _
 simp only [dV] at hc1
 by_cases hk : kindD n x s L = 0
 ·rw [if_neg (by simp [hk])]
  have hS := (kind_zero hk).1
  obtain ⟨G, hGe⟩ : ∃ G, G = dgOf n x s L := ⟨_, rfl⟩
  have hG : GoodG G := by rw [hGe]; exact good_of hS
  have hGn : G.n = n := by rw [hGe]; rfl
  have hGL : G.L = L := by rw [hGe]; rfl
  have hsz := hG.size
  have hloops := hG.loops
  rw [hGL] at hloops
  have hct := count_ hE (c := c) hx1 hS
  rw [← hGe] at hct ⊢
  simp only [dV] at hct ⊢
  simp [← hh1, rdN_def, b0, DC_of hc1, hk, hj1]
  refine hct.imp ?_
  rintro o st ⟨xs, k1, ho, hk1, rfl, rfl⟩
  obtain ⟨_, rfl⟩ := cp_eq (G := G) (by rw [hGn]; exact ho)
  clear ho
  by_cases hin : 0 ≤ k ∧ k < cpK G + L
  ·rw [if_pos hin]
   have n1 : ¬ k < 0 := by omega
   have n2 : ¬ (cpK G : Int) + L ≤ k := by omega
   have har := archesR_ hE (c := c) hx1 hS
   rw [← hGe] at har
   simp only [dV] at har
   simp [hj1, rdN_def, b0, n1, n2]
   refine har.imp ?_
   rintro o ⟨h2, f2⟩ ⟨b, rfl, s2, hf2, hb, hof⟩
   simp only at s2 hf2 hof
   have b2 := s2 _ _ b0
   have hof2 := of_ hE (c := c) (L := L) (hx1.sub s2) hS
   rw [← hGe] at hof2
   simp only [dV] at hof2
   simp [joined_fl, hf2, rdN_def, b2]
   refine hof2.imp ?_
   rintro o ⟨h3, f3⟩ ⟨xs, k2, rfl, hf3, s3, hxs, ho, _⟩
   simp only at hf3 s3 hxs
   unfold AtB at hxs
   obtain ⟨hxe, _⟩ := cp_eq (G := G) (by rw [hGn]; exact ho)
   have hxl := ho.len
   have hof3 := s3 _ _ hof
   have hal : (arL G).length = 2 * n := by unfold arL; rw [tabL_length, hGn]
   obtain ⟨P, hP⟩ : ∃ P, P = h2.length + 1 := ⟨_, rfl⟩
   rw [← hP] at hxs
   simp [joined_fl, hf3]
   rw [← hP]
   have hmer : merD G k = if 0 ≤ firstI (fun j => decide (nth xs j = k)) (2 * n) then (arN G (firstI (fun j => decide (nth xs j = k)) (2 * n)).toNat : Int) + 1 else arC G - cpK G + k + 1 := by
    unfold merD fstA
    rw [hxe, hGn]
   rw [hmer]
   obtain ⟨N, hN⟩ : ∃ N, N = 2 * n := ⟨_, rfl⟩
   rw [← hN]
   have hNI : 2 * (n : Int) = (N : Int) := by omega
   rw [hNI]
   refine DW_loop (fun kk fr st => ∃ (i : Nat), i + kk = N ∧ st = ⟨h3, h0.length⟩ ∧ (∀ j, j < i → nth xs j ≠ k) ∧ get fr 1 = .int .i64 k ∧ get fr 7 = .int .i64 (cpK G + L) ∧ get fr 8 = .slice (some ⟨b, 0, none⟩) N N ∧ get fr 9 = .int .i64 (arC G + L) ∧ get fr 32 = .slice (some ⟨P, 0, none⟩) N N ∧ get fr 33 = .int .i64 N ∧ get fr 34 = .int .i64 i) ?_ (k := N) ?_
   ·rintro kk fr st ⟨i, hik, rfl, hd, g1, g7, g8, g9, g32, g33, g34⟩
    by_cases hi : i < N
    ·have hw : IntKind.i64.wrap ((i : Int) + 1) = (i : Int) + 1 := by rw [w64_id] <;> omega
     have gx : (intsC xs)[i]? = some (.int .i64 (nth xs i)) := intsC_get (by omega)
     have ga : (intsC (arL G))[i]? = some (.int .i64 (arN G i)) := by
      rw [intsC_get (by omega)]
      unfold arL
      rw [tabL_nth (by rw [hGn]; omega)]
     by_cases he : nth xs i = k
     ·have hfi : firstI (fun j => decide (nth xs j = k)) N = i := firstI_found hi (by simp [he]) (fun j hj => by simpa using hd j hj)
      have hal2 := arN_lt (G := G) (a := i) (by rw [hGn]; omega)
      have hac := arC_le G
      have hwa : IntKind.i64.wrap ((arN G i : Int) + 1) = (arN G i : Int) + 1 := by rw [w64_id] <;> omega
      rw [hfi]
      simp [g1, g7, g8, g9, g32, g33, g34, hi, rd_def, ↓hxs, ↓hof3, gx, ga, he, hwa, endK_ret, back, hsc]
     ·simp [g1, g7, g8, g9, g32, g33, g34, hi, rd_def, ↓hxs, gx, he, hw]
      refine ⟨kk - 1, by omega, i + 1, by omega, fun j hj => ?_, by omega⟩
      by_cases e : j = i
      ·rw [e]; exact he
      ·exact hd j (by omega)
    ·have hiN : i = N := by omega
     have hfi : firstI (fun j => decide (nth xs j = k)) N = -1 := by
      rcases firstI_cases (fun j => decide (nth xs j = k)) N with ⟨j, h1, h2, _⟩ | ⟨_, h2⟩
      ·exact absurd (by simpa using h2) (hd j (by omega))
      ·exact h2
     have hac := arC_le G
     have hwm : IntKind.i64.wrap ((arC G : Int) + L - (cpK G + L) + k + 1) = (arC G : Int) - cpK G + k + 1 := by rw [w64_id] <;> omega
     rw [hfi]
     simp [g1, g7, g8, g9, g32, g33, g34, hiN, hwm, endK_ret, back, hsc]
   ·exact ⟨0, by omega, rfl, fun j hj => by omega, by simp [hN]⟩
  ·rw [if_neg hin]
   by_cases n1 : k < 0
   ·simp [hj1, n1, endK_ret, back, hsc]
   ·have n2 : (cpK G : Int) + L ≤ k := by omega
    simp [hj1, n1, n2, endK_ret, back, hsc]
 ·rw [if_pos hk]
  simp only [dV]
  simp [← hh1, rdN_def, b0, DC_of hc1, hk, hj1, endK_ret, back, hsc]
end Go.Proofs.Ytjlkndkedknocaa
namespace Go.Ai
theorem Sub.rdO {h h' : List O} (hs : Sub h h') {b i : Nat} {v : Value} (hr : rdO h[b]? i = some v) : rdO h'[b]? i = some v := by
 rw [← rd_def] at hr ⊢
 exact hs.rd hr
end Go.Ai
namespace Go.Proofs.Ytjlkndkedknocaa
open Go Go.Ai
attribute [local instance] Classical.propDecidable
def InvI (h : List O) (lo n : Nat) (A : List (List Int)) (i : Nat) (vs : List Value) : Prop :=
 ∀ q, q < i → ∃ b, vs[q]? = some (.slice (some ⟨b, 0, none⟩) n n) ∧ lo ≤ b ∧ h[b]? = some (.cells (intsC (invL (nthR A q))) 3 (some 0))
theorem InvI.mat {h : List O} {lo n i : Nat} {A : List (List Int)} {vs : List Value} {uv : Value} (hR : InvI h lo n A i vs) (hu : OwnS h lo uv i vs 34 1) (hi : A.length = i) (hrow : ∀ q, q < i → (nthR A q).length = n ∧ PermL n (nthR A q)) (hn : n ≤ 1000 ∧ i ≤ 1000) : Mat h uv (invA A) := by
 have hlA : (invA A).length = i := by rw [invA_length, hi]
 rcases hu.2 with ⟨h1, h2⟩ | ⟨b, su, h1, h2, h3, _⟩
 ·have : invA A = [] := List.length_eq_zero_iff.1 (by omega)
  rw [h1, this]
  exact ⟨none, 0, 0, 0, fun _ => undef, rfl, fun h => absurd h (by simp), fun i hi => absurd hi (by simp), by simp⟩
 ·refine ⟨some ⟨b, 0, none⟩, b, 0, i, fun q => (vs[q]?).getD undef, by rw [h1, hlA], fun _ => rfl, fun q hq => ?_, by omega⟩
  obtain ⟨b', r1, r2, r3⟩ := hR q (by omega)
  refine ⟨by rw [rd_def, h3]; simp [r1], ?_⟩
  rw [invA_at (by omega)]
  simp only [r1, Option.getD_some]
  obtain ⟨k1, k2⟩ := hrow q (by omega)
  have hinv := k2.inv
  refine ⟨some ⟨b', 0, none⟩, b', 0, n, by rw [hinv.len], fun _ => rfl, fun j hj => ?_, fun j => ?_, by rw [hinv.len]; omega⟩
  ·rw [rd_def, r3]
   simp only [rdO_cells, Nat.zero_add]
   exact intsC_get hj
  ·by_cases hj : j < (invL (nthR A q)).length
   ·have := hinv.rng j hj
    constructor <;> omega
   ·rw [nth_ge (by omega)]; constructor <;> omega
variable {E : Env} (hE : OE E)
include hE
theorem checkW_ {h0 : List O} {a : Option Addr} {n c : Nat} {x : Nat → Nat → Int} {s : Nat → Int} {L : Int} {vA : Value} {A : List (List Int)} (hx : CrossP h0 a n x s) (hA : Mat h0 vA A) (hroom : ∀ i, i < A.length → (nthR A i).length * 8 ≤ roomMax) :
  DR E 67 [dV a n c L, vA] ⟨h0, h0.length⟩ (.ret (.int .i64 (if kindD n x s L ≠ 0 then kindD n x s L else checkD (dgOf n x s L) A))) ⟨h0, h0.length⟩ := by
 refine hE.fn (body := rb67) rfl ?_
 unfold rb67
 have hx1 : CrossP (h0 ++ [O.cells [.slice a n c, .int .i64 L] 24 (some 0)]) a n x s := hx.ext (Ext.snoc _ _)
 have h1 := check_ hE (c := c) (L := L) hx1
 simp [dV] at h1
 by_cases hk : kindD n x s L = 0
 ·have h2 := newLinkC_ hE (c := c) hx1 hk
  simp [dV] at h2
  have hS := (kind_zero hk).1
  simp [dV, rdN_at0, joined_fl, DC_of h1, hk]
  refine h2.imp ?_
  rintro o ⟨h3, f3⟩ ⟨pl, rfl, hp, hf, hs, hl⟩
  simp only at hf hs hl
  have hs0 : Sub h0 h3 := ((Sub.refl h0).app _).trans hs
  simp [joined_fl, hf]
  refine (presentation_ hE hl hS).imp ?_
  rintro o ⟨h4, f4⟩ ⟨v, rfl, hs4, hf4, hM⟩
  simp only at hf4 hs4 hM
  have hM0 := hM.mat
  have hone : one1 v = true := by obtain ⟨va, vb, vo, vc, vvs, hv, hvr⟩ := hM0; rw [hv]; rfl
  have hl3 := hs.len
  simp at hl3
  have hl4 := hs4.len
  have hmin4 : min h0.length h4.length = h0.length := by omega
  obtain ⟨G, hGe⟩ : ∃ G, G = dgOf n x s L := ⟨_, rfl⟩
  have hG : GoodG G := by rw [hGe]; exact good_of hS
  have hGn : G.n = n := by rw [hGe]; rfl
  have hGL : G.L = L := by rw [hGe]; rfl
  rw [← hGe] at hM hM0 ⊢
  have hac := arC_le G
  have hsz := hG.size
  have hloops := hG.loops
  rw [hGL] at hloops
  obtain ⟨H, hH⟩ : ∃ H, H = h4 ++ [O.cells [.int .i64 (arC G + L), v] 81 (some 0)] := ⟨_, rfl⟩
  have hlH : H.length = h4.length + 1 := by rw [hH]; simp
  have hsH : Sub h4 H := by rw [hH]; exact (Sub.refl _).app _
  have hs0H : Sub h0 H := (hs0.trans hs4).trans hsH
  have q6 : H[h4.length]? = some (.cells [.int .i64 (arC G + L), v] 81 (some 0)) := by rw [hH, app_at0]; rfl
  obtain ⟨aa, ab, ao, ac, avs, rfl, ha, har⟩ := hA.at
  unfold checkD
  rw [hGL]
  have hq6' : ∀ l, (H ++ l)[h4.length]? = _ := fun l => app_of q6 l
  by_cases hg : (A.length : Int) = arC G + L
  ·have hg' : (arC G : Int) + L = (A.length : Int) := hg.symm
   rw [if_pos hg]
   rw [hg'] at hH q6 
   simp [joined_fl, hf4, wrN_at0, hone, set_at0, hmin4, hg', ← hH, rd_def, q6]
   have hsc : ∀ z : Int, (Out.ret (.int .i64 z)).scalar = true := fun _ => rfl
   have hA600 : A.length ≤ 600 := by omega
   have hrow0 := fun (hpos : 0 < A.length) => har 0 hpos
   refine DW_loop (fun kk fr st => ∃ (i : Nat) (h : List O) (uv : Value) (vs : List Value), i + kk = A.length ∧ st = ⟨h, h0.length⟩ ∧ Sub H h ∧ OwnS h H.length uv i vs 34 1 ∧ InvI h H.length (nthR A 0).length A i vs ∧ (∀ q, q < i → (nthR A q).length = (nthR A 0).length ∧ PermB (nthR A q)) ∧
    get fr 1 = .slice aa A.length ac ∧ get fr 6 = .pointer (some ⟨h4.length, 0, none⟩) ∧ get fr 7 = uv ∧ get fr 25 = .slice aa A.length ac ∧ get fr 26 = .int .i64 A.length ∧ get fr 27 = .int .i64 i) ?_ (k := A.length) ?_
   ·rintro kk fr st ⟨i, h, uv, vs, hik, rfl, hsub, hu, hR, hok, g1, g6, g7, g25, g26, g27⟩
    have hs0h : Sub h0 h := hs0H.trans hsub
    have hhl := hsub.len
    by_cases hi : i < A.length
    ·have hw : IntKind.i64.wrap ((i : Int) + 1) = (i : Int) + 1 := by rw [w64_id] <;> omega
     obtain rfl := ha (by omega)
     obtain ⟨r1, r2⟩ := har i hi
     obtain ⟨r3, r4⟩ := har 0 (by omega)
     have r1' := hs0h.rdO r1
     have r3' := hs0h.rdO r3
     simp only [Nat.add_zero] at r3'
     have r2' := r2.sub hs0h
     have hpi := isPerm_ hE r2' (hroom i hi)
     obtain ⟨ra, rb, ro, rc, hrv, _, _⟩ := r2.at
     obtain ⟨sa, sb, so, sc, hsv, _, _⟩ := r4.at
     rw [hrv] at r1' hpi
     rw [hsv] at r3'
     have hpos : 0 < A.length := by omega
     by_cases hlen : (nthR A i).length = (nthR A 0).length
     ·rw [hlen] at hpi
      by_cases hP : PermB (nthR A i)
      ·have hrng : InN (nthR A i).length (nthR A i) := hP.1.rng
       have hinv := inverse_ hE r2' hrng (by have := hP.2.2; omega)
       rw [hrv, hlen] at hinv
       obtain ⟨H2, hH2⟩ : ∃ H2, H2 = h ++ [O.cells (intsC (invL (nthR A i))) 3 (some 0)] := ⟨_, rfl⟩
       have hl2 : H2.length = h.length + 1 := by rw [hH2]; simp
       have hE2 : Ext h H2 := by rw [hH2]; exact Ext.snoc _ _
       have hin : H2[h.length]? = some (O.cells (intsC (invL (nthR A i))) 3 (some 0)) := by rw [hH2, app_at0]; rfl
       have hu2 : OwnS (H2 ++ [.cells [.slice (some ⟨h.length, 0, none⟩) (nthR A i).length (nthR A i).length] 34 (some 0)]) H.length uv i vs 34 1 := hu.ext (hE2.trans (Ext.snoc _ _))
       have hread : readSlice (H2 ++ [.cells [.slice (some ⟨h.length, 0, none⟩) (nthR A i).length (nthR A i).length] 34 (some 0)]) 1 1 (some ⟨H2.length, 0, none⟩) = some [.slice (some ⟨h.length, 0, none⟩) (nthR A i).length (nthR A i).length] := by simp [readSlice, rdN_at0]
       obtain ⟨b', H4, f4, happ, hb', hown, hf1, hf2, hL4, K4⟩ := append_S (fl := h0.length) (c := 1) (bytes := 24) hu2 hread (by simp) (by simp) (by simp; omega) (by simp only [roomMax]; omega) (by omega)
       obtain rfl : f4 = h0.length := by omega
       have hnei : ∀ (b : Nat) (cs : List Value) (ow : Option Nat), H2[b]? = some (.cells cs 3 ow) → ∀ n' c', uv ≠ .slice (some ⟨b, 0, none⟩) n' c' := fun b cs ow hb n' c' e => by
        rcases hu.2 with ⟨h1, _⟩ | ⟨b2, s2, h1, h2, h3, _⟩
        ·rw [e] at h1; cases h1
        ·rw [e] at h1
         simp only [Value.slice.injEq, Option.some.injEq, Addr.mk.injEq] at h1
         obtain ⟨l, hl⟩ := hE2
         rw [h1.1.1, hl, app_of h3] at hb
         cases hb
       have hneH : ∀ (b : Nat), b < H.length → ∀ n' c', uv ≠ .slice (some ⟨b, 0, none⟩) n' c' := fun b hb n' c' e => by
        rcases hu.2 with ⟨h1, _⟩ | ⟨b2, s2, h1, h2, h3, _⟩
        ·rw [e] at h1; cases h1
        ·rw [e] at h1
         simp only [Value.slice.injEq, Option.some.injEq, Addr.mk.injEq] at h1
         omega
       have happ2 := happ
       rw [hl2] at happ2
       simp only [hlen, hH2, List.append_assoc, List.cons_append, List.nil_append] at happ2
       simp [g1, g6, g7, g25, g26, g27, hi, rd_def, r1', r3', hpos, hlen, DC_of hpi, hP, DC_of hinv, List.append_assoc, happ2, hw]
       have hrowlen : ∀ q, q < i + 1 → (nthR A q).length = (nthR A 0).length ∧ PermB (nthR A q) := fun q hq => by
        by_cases e : q = i
        ·rw [e]; exact ⟨hlen, hP⟩
        ·exact hok q (by omega)
       rw [hlen] at hown
       refine ⟨kk - 1, by omega, i + 1, by omega, fun b o hb => ?_, _, vs ++ [.slice (some ⟨h.length, 0, none⟩) (nthR A 0).length (nthR A 0).length], hown, fun q hq => ?_, hrowlen, rfl, by omega⟩
       ·have := (List.getElem?_eq_some_iff.1 hb).1
        obtain ⟨l, hl⟩ := hE2
        exact K4 b o (by rw [hl, List.append_assoc]; exact app_of (hsub b o hb) _) (hneH b this)
       ·have hvl : vs.length = i := by have := hu.1; omega
        by_cases e : q < i
        ·obtain ⟨b, q1, q2, q3⟩ := hR q e
         have hq3 : H2[b]? = some (O.cells (intsC (invL (nthR A q))) 3 (some 0)) := by rw [hH2]; exact app_of q3 _
         exact ⟨b, by rw [List.getElem?_append_left (by omega)]; exact q1, q2, K4 b _ (app_of hq3 _) (hnei b _ _ hq3)⟩
        ·have hqi : q = i := by omega
         subst hqi
         exact ⟨h.length, by rw [List.getElem?_append_right (by omega), hvl]; simp, by omega, K4 _ _ (app_of hin _) (hnei _ _ _ hin)⟩
      ·have hno : ¬ PermsA A := fun h => hP (h i hi).2
       simp [g1, g6, g7, g25, g26, g27, hi, rd_def, r1', r3', hpos, hlen, DC_of hpi, hP, hno, endK_ret, back_scalar, hsc]
     ·have hno : ¬ PermsA A := fun h => hlen (h i hi).1
      simp [g1, g6, g7, g25, g26, g27, hi, rd_def, r1', r3', hpos, hlen, hno, endK_ret, back_scalar, hsc]
    ·have hin : i = A.length := by omega
     subst hin
     have hP : PermsA A := hok
     have hmA := hA.sub hs0h
     have hmB := InvI.mat hR hu rfl (fun q hq => ⟨(hok q hq).1, by rw [← (hok q hq).1]; exact (hok q hq).2.1⟩) ⟨by
      rcases Nat.eq_zero_or_pos A.length with h | h
      ·have : A = [] := List.length_eq_zero_iff.1 h
       rw [this]; simp [nthR]
      ·have := (hok 0 h).2.2.2; omega, by omega⟩
     have q6h := hsub _ _ q6
     have hmv := hM0.sub (hsH.trans hsub)
     obtain ⟨va, vb, vo, vc, vvs, rfl, hva, hvr⟩ := hmv.at
     rw [relL_length, hGn] at hva hvr q6h
     obtain ⟨ba, bb, bo, bc, bvs, hbv, _, _⟩ := hmB.at
     rw [if_pos hP]
     have hs0m := fun (hpos : 0 < A.length) => hs0h.rdO (har 0 hpos).1
     simp [g1, g6, g7, g25, g26, g27, rd_def, q6h]
     refine DW_loop (fun kk fr st => ∃ (m : Nat), m + kk = n ∧ st = ⟨h, h0.length⟩ ∧ (∀ q, q < m → TrivL A (invA A) (relOf G q) (nthR A 0).length) ∧
      get fr 1 = .slice aa A.length ac ∧ get fr 7 = uv ∧ get fr 50 = .slice va n vc ∧ get fr 51 = .int .i64 n ∧ get fr 52 = .int .i64 m) ?_ (k := n) ?_
     ·clear g1 g6 g7 g25 g26 g27
      rintro kk fr st ⟨m, hmk, rfl, htr, g1, g7, g50, g51, g52⟩
      by_cases hm : m < n
      ·have hw : IntKind.i64.wrap ((m : Int) + 1) = (m : Int) + 1 := by rw [w64_id] <;> omega
       obtain rfl := hva (by omega)
       obtain ⟨p1, p2⟩ := hvr m hm
       rw [relL_nth (by rw [hGn]; exact hm)] at p2
       have hgp := arN_lt (hG.X m 0 (by rw [hGn]; exact hm) (by omega))
       have hpos : 0 < A.length := by omega
       obtain rfl := ha hpos
       have r3' := hs0m hpos
       simp only [Nat.add_zero] at r3'
       obtain ⟨sa, sb, so, sc, hsv, _, _⟩ := ((har 0 hpos).2).at
       rw [hsv] at r3'
       have hn200 := (hok 0 hpos).2.2.2
       have htv := isTrivial_ hE hmA hmB p2 hP.rows hP.inv (invA_length A) (relOf_let hG (by rw [hGn]; exact hm) (by omega)) ⟨by omega, by omega⟩
       by_cases ht : TrivL A (invA A) (relOf G m) (nthR A 0).length
       ·simp [g1, g7, g50, g51, g52, hm, rd_def, p1, hpos, r3', DC_of htv, ht, hw]
        refine ⟨kk - 1, by omega, m + 1, by omega, fun q hq => ?_, by omega⟩
        by_cases e : q = m
        ·rw [e]; exact ht
        ·exact htr q (by omega)
       ·have hno : ¬ HomA G A := fun hh => ht (hh m (by rw [hGn]; exact hm))
        simp [g1, g7, g50, g51, g52, hm, rd_def, p1, hpos, r3', DC_of htv, ht, hno, endK_ret, back_scalar, hsc]
      ·have hmn : m = n := by omega
       subst hmn
       have hyes : HomA G A := fun q hq => htr q (by rw [hGn] at hq; exact hq)
       simp [g1, g7, g50, g51, g52, hyes, endK_ret, back_scalar, hsc]
     ·exact ⟨0, by omega, rfl, fun q h => by omega, by simp [g1, g7]⟩
   ·exact ⟨0, H, .slice none 0 0, [], by omega, rfl, Sub.refl _, OwnS.nil _ _ _ _, fun q hq => by omega, fun q hq => by omega, by simp⟩
  ·rw [if_neg hg]
   simp [joined_fl, hf4, wrN_at0, hone, set_at0, hmin4, ← hH, rd_def, q6, hg, endK_ret, back_scalar, Out.scalar, scalar, flat1, flat]
 ·simp [dV, rdN_at0, joined_fl, DC_of h1, hk, endK_ret, back_scalar, Out.scalar, scalar, flat1, flat]
end Go.Proofs.Ytjlkndkedknocaa
namespace Go.Ai
theorem PartI.sub {h h' : List O} {v : Value} (k : PartI h v) (e : Sub h h') : PartI h' v := by
 obtain ⟨a, n, c, h1, h2, h3⟩ := k
 refine ⟨a, n, c, h1, h2, fun b o ha => ?_⟩
 have ht := h3 b o ha
 unfold tagOk at ht ⊢
 cases hb : h[b]? with
 | none => rw [hb] at ht; simp at ht
 | some y => rw [e _ _ hb]; rw [hb] at ht; exact ht
def MatP (h : List O) (v : Value) (A : List (List Int)) : Prop :=
 ∃ a b o c, ∃ vs : Nat → Value, v = .slice a A.length c ∧ (0 < A.length → a = some ⟨b, o, none⟩) ∧ (∀ i, i < A.length → rdO h[b]? (o + i) = some (vs i) ∧ Ints h (vs i) (nthR A i) ∧ PartI h (vs i)) ∧ A.length < 2 ^ 62
theorem MatP.mat {h : List O} {v : Value} {A : List (List Int)} (k : MatP h v A) : Mat h v A := by
 obtain ⟨a, b, o, c, vs, h1, h2, h3, h4⟩ := k
 exact ⟨a, b, o, c, vs, h1, h2, fun i hi => ⟨by rw [rd_def]; exact (h3 i hi).1, (h3 i hi).2.1⟩, h4⟩
theorem MatP.sub {h h' : List O} {v : Value} {A : List (List Int)} (k : MatP h v A) (e : Sub h h') : MatP h' v A := by
 obtain ⟨a, b, o, c, vs, h1, h2, h3, h4⟩ := k
 exact ⟨a, b, o, c, vs, h1, h2, fun i hi => ⟨Sub.rdO e (h3 i hi).1, (h3 i hi).2.1.sub e, (h3 i hi).2.2.sub e⟩, h4⟩
end Go.Ai
namespace Go.Proofs.Ytjlkndkedknocaa
open Go Go.Ai
attribute [local instance] Classical.propDecidable
variable {E : Env} (hE : OE E)
include hE
theorem checkQ_ {h0 : List O} {a : Option Addr} {n c : Nat} {x : Nat → Nat → Int} {s : Nat → Int} {L : Int} {vA : Value} {A : List (List Int)} (hx : CrossP h0 a n x s) (hA : MatP h0 vA A) :
  DR E 77 [dV a n c L, vA] ⟨h0, h0.length⟩ (.ret (.int .i64 (if kindD n x s L ≠ 0 then kindD n x s L else checkD (dgOf n x s L) A))) ⟨h0, h0.length⟩ := by
 refine hE.fn (body := rb77) rfl ?_
 unfold rb77
 have hsc : ∀ z : Int, (Out.ret (.int .i64 z)).scalar = true := fun _ => rfl
 obtain ⟨h1, hh1⟩ : ∃ H, H = h0 ++ [O.cells [.slice a n c, .int .i64 L] 24 (some 0)] := ⟨_, rfl⟩
 have l1 : h1.length = h0.length + 1 := by rw [hh1]; simp
 have s1 : Sub h0 h1 := by rw [hh1]; exact (Sub.refl _).app _
 have b0 : h1[h0.length]? = some (O.cells [.slice a n c, .int .i64 L] 24 (some 0)) := by rw [hh1, app_at0]; rfl
 have hx1 := hx.sub s1
 have hc1 := checkR_ hE (c := c) (L := L) hx1
 have hj1 : joined ⟨h1, h0.length⟩ ⟨h1, h1.length⟩ = ⟨h1, h0.length⟩ := joined_mk _ _
 simp only [dV] at hc1
 by_cases hk : kindD n x s L = 0
 ·rw [if_neg (by simp [hk])]
  have hS := (kind_zero hk).1
  have hpr := presR_ hE (c := c) (L := L) hx1 hS
  obtain ⟨G, hGe⟩ : ∃ G, G = dgOf n x s L := ⟨_, rfl⟩
  have hG : GoodG G := by rw [hGe]; exact good_of hS
  have hGn : G.n = n := by rw [hGe]; rfl
  have hGL : G.L = L := by rw [hGe]; rfl
  have hsz := hG.size
  have hac := arC_le G
  have hloops := hG.loops
  rw [hGL] at hloops
  rw [← hGe] at hpr ⊢
  simp only [dV] at hpr ⊢
  obtain ⟨zz, hzz⟩ : ∃ zz, zz = checkD G A := ⟨_, rfl⟩
  rw [← hzz]
  unfold checkD at hzz
  rw [hGL] at hzz
  simp [← hh1, rdN_def, b0, DC_of hc1, hk, hj1]
  refine hpr.imp ?_
  rintro o ⟨h2, f2⟩ ⟨v, rfl, s2, hf2, hM⟩
  simp only at s2 hf2 hM
  have hM0 := hM.mat
  have hone : one1 v = true := by obtain ⟨va, vb, vo, vc, vvs, hv, hvr⟩ := hM0; rw [hv]; rfl
  have l2 := s2.len
  obtain ⟨P, hP⟩ : ∃ P, P = h2.length := ⟨_, rfl⟩
  obtain ⟨h3, hh3⟩ : ∃ H, H = h2 ++ [O.cells [.int .i64 (arC G + L), v] 81 (some 0)] := ⟨_, rfl⟩
  have hmP : min h0.length h2.length = h0.length := by omega
  have s3 : Sub h2 h3 := by rw [hh3]; exact (Sub.refl _).app _
  have bP : h3[P]? = some (O.cells [.int .i64 (arC G + L), v] 81 (some 0)) := by rw [hh3, hP, app_at0]; rfl
  have s03 : Sub h0 h3 := (s1.trans s2).trans s3
  have hA3 := hA.sub s03
  have hM3 := hM0.sub s3
  have hAm := hA3.mat
  obtain ⟨aa, ab, ao, ac, avs, rfl, ha, har, hal⟩ := hA3
  by_cases hg : (A.length : Int) = arC G + L
  ·rw [if_pos hg] at hzz
   simp [joined_fl, hf2, wrN_at0, set_at0, hone, hmP]
   rw [← hh3, ← hP]
   have hg' : (arC G : Int) + L = (A.length : Int) := hg.symm
   rw [hg'] at bP
   simp [hg]
   refine DW_loop (fun kk fr st => ∃ (i : Nat), i + kk = A.length ∧ st = ⟨h3, h0.length⟩ ∧ (∀ q, q < i → (nthR A q).length = (nthR A 0).length ∧ PermB (nthR A q)) ∧ get fr 1 = .slice aa A.length ac ∧ get fr 6 = .pointer (some ⟨P, 0, none⟩) ∧ get fr 21 = .slice aa A.length ac ∧ get fr 22 = .int .i64 A.length ∧ get fr 23 = .int .i64 i) ?_ (k := A.length) ?_
   ·rintro kk fr st ⟨i, hik, rfl, hd, g1, g6, g21, g22, g23⟩
    by_cases hi : i < A.length
    ·have hw : IntKind.i64.wrap ((i : Int) + 1) = (i : Int) + 1 := by rw [w64_id] <;> omega
     obtain rfl := ha (by omega)
     obtain ⟨r1, r2, r3⟩ := har i hi
     obtain ⟨q1, q2, _⟩ := har 0 (by omega)
     obtain ⟨ra, rb, ro, rc, hrv, hra, hrr⟩ := r2.at
     obtain ⟨qa, qb, qo, qc, hqv, hqa, hqr⟩ := q2.at
     have hip := isPermR_ hE (m := (nthR A 0).length) r2 r3
     rw [hrv] at r1 hip
     rw [hqv, Nat.add_zero] at q1
     have h0A : 0 < A.length := by omega
     have h0i : (0 : Int) < (A.length : Int) := by omega
     have hj3 : joined ⟨h3, h0.length⟩ ⟨h3, h3.length⟩ = ⟨h3, h0.length⟩ := joined_mk _ _
     have hno : ¬ ((nthR A i).length = (nthR A 0).length ∧ PermB (nthR A i)) → zz = 1 := fun hb => by
      rw [if_neg (fun hp => hb (hp i hi))] at hzz
      exact hzz
     by_cases c1 : (nthR A i).length < 1
     ·have := hno (fun hb => by have := hb.2.2.1; omega)
      subst this
      have c1' : ((nthR A i).length : Int) < 1 := by omega
      have c1z : nthR A i = [] := List.length_eq_zero_iff.1 (by omega)
      simp [g1, g6, g21, g22, g23, hi, rd_def, r1, c1, c1', endK_ret, back, hsc]
     ·have c1' : ¬ ((nthR A i).length : Int) < 1 := by omega
      have c1z : ¬ nthR A i = [] := fun e => by rw [e] at c1; simp at c1
      by_cases c2 : 200 < (nthR A i).length
      ·have := hno (fun hb => by have := hb.2.2.2; omega)
       subst this
       have c2' : (200 : Int) < ((nthR A i).length : Int) := by omega
       simp [g1, g6, g21, g22, g23, hi, rd_def, r1, c1, c1', c1z, c2, c2', endK_ret, back, hsc]
      ·have c2' : ¬ (200 : Int) < ((nthR A i).length : Int) := by omega
       by_cases c3 : PermL (nthR A 0).length (nthR A i)
       ·rw [decide_eq_true c3] at hip
        simp [g1, g6, g21, g22, g23, hi, rd_def, r1, c1, c1', c1z, c2, c2', h0A, h0i, q1, DC_of hip, hj3, hw]
        refine ⟨kk - 1, by omega, i + 1, by omega, fun q hq => ?_, by omega⟩
        by_cases e : q = i
        ·rw [e]; exact ⟨c3.len, by rw [c3.len]; exact c3, by omega, by omega⟩
        ·exact hd q (by omega)
       ·rw [decide_eq_false c3] at hip
        have := hno (fun hb => c3 (by rw [← hb.1]; exact hb.2.1))
        subst this
        simp [g1, g6, g21, g22, g23, hi, rd_def, r1, c1, c1', c1z, c2, c2', h0A, h0i, q1, DC_of hip, hj3, endK_ret, back, hsc]
    ·have hiA : i = A.length := by omega
     have hPA : PermsA A := fun q hq => hd q (by omega)
     rw [if_pos hPA] at hzz
     have hj3 : joined ⟨h3, h0.length⟩ ⟨h3, h3.length⟩ = ⟨h3, h0.length⟩ := joined_mk _ _
     have hRl := relL_length G
     have hom := homR_ hE (g := (A.length : Int)) hAm hM3 (fun q hq => by have := hPA q hq; rw [← this.1]; exact this.2.1) (fun q hq => by
      rw [relL_nth (by omega)]
      exact relOf_let hG (by omega) (by omega)) ⟨by omega, by
       rcases Nat.eq_zero_or_pos A.length with h | h
       ·have : A = [] := List.length_eq_zero_iff.1 h
        rw [this]; simp [nthR]
       ·have := (hPA 0 h).2.2.2; omega⟩
     have hiff : (∀ q, q < (relL G).length → A.length = 0 ∨ TrivL A (invA A) (nthR (relL G) q) (nthR A 0).length) ↔ HomA G A := by
      unfold HomA
      constructor
      ·intro hall q hq
       have := hall q (by omega)
       rw [relL_nth hq] at this
       rcases this with h | h
       ·have e : A = [] := List.length_eq_zero_iff.1 h
        rw [e]
        intro p hp
        simp [nthR] at hp
       ·exact h
      ·intro hall q hq
       rw [relL_nth (by omega)]
       exact .inr (hall q (by omega))
     by_cases hH : HomA G A
     ·rw [if_pos hH] at hzz
      subst hzz
      rw [decide_eq_true (hiff.2 hH)] at hom
      simp [g1, g6, g21, g22, g23, hiA, rdN_def, bP, DC_of hom, hj3, endK_ret, back, hsc]
     ·rw [if_neg hH] at hzz
      subst hzz
      rw [decide_eq_false (fun h => hH (hiff.1 h))] at hom
      simp [g1, g6, g21, g22, g23, hiA, rdN_def, bP, DC_of hom, hj3, endK_ret, back, hsc]
   ·exact ⟨0, by omega, rfl, fun q hq => by omega, by simp [hg']⟩
  ·rw [if_neg hg] at hzz
   subst hzz
   simp [joined_fl, hf2, wrN_at0, set_at0, hone, hmP]
   rw [← hh3, ← hP]
   simp [rd_def, bP, hg, endK_ret, back, hsc]
 ·rw [if_pos hk]
  simp only [dV]
  simp [← hh1, rdN_def, b0, DC_of hc1, hk, hj1, endK_ret, back, hsc]
end Go.Proofs.Ytjlkndkedknocaa
namespace Go.Ai
theorem pw_eq {α : Type} {f : α → Nat} : ∀ {l : List α}, l.Pairwise (fun x y => f x ≠ f y) → ∀ {x y : α}, x ∈ l → y ∈ l → f x = f y → x = y
 | [], _, x, _, h, _, _ => by simp at h
 | z :: l, hp, x, y, hx, hy, e => by
  rw [List.pairwise_cons] at hp
  rcases List.mem_cons.1 hx with hx | hx
  ·rcases List.mem_cons.1 hy with hy | hy
   ·rw [hx, hy]
   ·rw [hx] at e; exact absurd e (hp.1 y hy)
  ·rcases List.mem_cons.1 hy with hy | hy
   ·rw [hy] at e; exact absurd e.symm (hp.1 x hx)
   ·exact pw_eq hp.2 hx hy e
theorem nodup_le : ∀ {s l : List Nat}, s.Nodup → (∀ b ∈ s, b ∈ l) → s.length ≤ l.length
 | [], l, _, _ => by simp
 | x :: s, l, h1, h2 => by
  rw [List.nodup_cons] at h1
  have hx := h2 x (by simp)
  have h3 := nodup_le (s := s) (l := l.erase x) h1.2 fun b hb => (List.mem_erase_of_ne (fun e => by rw [e] at hb; exact h1.1 hb)).2 (h2 b (by simp [hb]))
  rw [List.length_erase_of_mem hx] at h3
  have := List.length_pos_of_mem hx
  simp; omega
end Go.Ai
namespace Go.Proofs.Ytjlkndkedknocaa
open Go Go.Ai
attribute [local instance] Classical.propDecidable
theorem lE_born {X : Nat → Nat → Nat} {s : Nat → Int} : ∀ {c : Nat}, ∀ y ∈ lE X s c, y.2.2 < 2 * c := by
 intro c
 induction c with
 | zero => intro y h; simp [lE] at h
 | succ c ih =>
  intro y h
  simp only [lE, List.mem_append, List.mem_singleton] at h
  rcases h with (h | rfl) | rfl
  ·have := ih y h; omega
  ·simp only; omega
  ·simp only; omega
theorem lE_pw (X : Nat → Nat → Nat) (s : Nat → Int) : ∀ c, (lE X s c).Pairwise fun x y => x.2.2 ≠ y.2.2 := by
 intro c
 induction c with
 | zero => exact List.Pairwise.nil
 | succ c ih =>
  simp only [lE]
  rw [List.pairwise_append, List.pairwise_append]
  refine ⟨⟨ih, List.pairwise_singleton _ _, fun x hx y hy => ?_⟩, List.pairwise_singleton _ _, fun x hx y hy => ?_⟩
  ·simp at hy
   rw [hy]
   have := lE_born x hx
   simp only; omega
  ·simp at hy
   rw [hy]
   rcases List.mem_append.1 hx with hx | hx
   ·have := lE_born x hx
    simp only; omega
   ·simp at hx
    rw [hx]; simp
theorem lE_length (X : Nat → Nat → Nat) (s : Nat → Int) : ∀ c, (lE X s c).length = 2 * c := by
 intro c
 induction c with
 | zero => rfl
 | succ c ih => simp [lE, ih]; omega
theorem lE_is {X : Nat → Nat → Nat} {s : Nat → Int} : ∀ {n : Nat}, ∀ y ∈ lE X s n, ∃ c p, c < n ∧ (p = 0 ∨ p = inP (s c)) ∧ y.1 = (c, p) ∧ y.2.1 = .int .i64 (X c p) := by
 intro n
 induction n with
 | zero => intro y h; simp [lE] at h
 | succ n ih =>
  intro y h
  simp only [lE, List.mem_append, List.mem_singleton] at h
  rcases h with (h | rfl) | rfl
  ·obtain ⟨c, p, h1, h2⟩ := ih y h
   exact ⟨c, p, by omega, h2⟩
  ·exact ⟨n, 0, by omega, .inl rfl, rfl, rfl⟩
  ·exact ⟨n, _, by omega, .inr rfl, rfl, rfl⟩
theorem lE_has {X : Nat → Nat → Nat} {s : Nat → Int} : ∀ {n c p : Nat}, c < n → (p = 0 ∨ p = inP (s c)) → ∃ b, ((c, p), Value.int .i64 (X c p), b) ∈ lE X s n := by
 intro n
 induction n with
 | zero => intro c p h; omega
 | succ n ih =>
  intro c p hc hp
  simp only [lE, List.mem_append, List.mem_singleton]
  by_cases e : c < n
  ·obtain ⟨b, hb⟩ := ih e hp
   exact ⟨b, .inl (.inl hb)⟩
  ·obtain rfl : c = n := by omega
   rcases hp with rfl | rfl
   ·exact ⟨_, .inl (.inr rfl)⟩
   ·exact ⟨_, .inr rfl⟩
def finT (G : Dg) (a : Nat) : Nat × Nat := (G.T a 2, G.T a 3)
def finL (G : Dg) : List (Nat × Nat) := (List.range (2 * G.n)).map (finT G)
theorem in_place {s : Int} (hs : s = 1 ∨ s = -1) {p : Nat} : ((p = 0 ∨ p = inP s) ↔ p < 4 ∧ outB s p = false) := by
 rcases hs with rfl | rfl
 ·constructor
  ·rintro (rfl | rfl)
   ·exact ⟨by omega, rfl⟩
   ·exact ⟨by decide, rfl⟩
  ·rintro ⟨h1, h2⟩
   match p, h1 with
   | 0, _ => exact .inl rfl
   | 1, _ => simp [outB] at h2
   | 2, _ => simp [outB] at h2
   | 3, _ => exact .inr rfl
 ·constructor
  ·rintro (rfl | rfl)
   ·exact ⟨by omega, rfl⟩
   ·exact ⟨by decide, rfl⟩
  ·rintro ⟨h1, h2⟩
   match p, h1 with
   | 0, _ => exact .inl rfl
   | 1, _ => exact .inr rfl
   | 2, _ => simp [outB] at h2
   | 3, _ => simp [outB] at h2
theorem fin_of {G : Dg} (hG : GoodG G) {c p : Nat} (hc : c < G.n) (hp : p < 4) (ho : outB (G.s c) p = false) : finT G (G.X c p) = (c, p) := by
 have ha := hG.X c p hc hp
 rcases hG.cover c p hc hp with ⟨h1, h2⟩ | ⟨h1, h2⟩
 ·have := (hG.dir _ ha).1
  rw [← h1, ← h2, ho] at this
  cases this
 ·unfold finT; rw [← h1, ← h2]
theorem cellsL_len (l : List (Nat × Nat)) : (cellsL l).length = l.length * 2 := by
 induction l with
 | nil => rfl
 | cons y l ih => show (cells2 y ++ cellsL l).length = _; rw [List.length_append, ih]; simp [cells2]; omega
theorem cellsL_set {e : List (Nat × Nat)} {a : Nat} {x : Nat × Nat} (ha : a < e.length) : setL (cellsL e) (a * 2) (cells2 x) = cellsL (e.set a x) := by
 induction e generalizing a with
 | nil => simp at ha
 | cons y l ih =>
  cases a with
  | zero => simp [cellsL, cells2]
  | succ a =>
   have h := ih (a := a) (by simpa using ha)
   have e1 : cellsL (y :: l) = cells2 y ++ cellsL l := rfl
   have e2 : cellsL ((y :: l).set (a + 1) x) = cells2 y ++ cellsL (l.set a x) := rfl
   rw [e1, e2, ← h]
   simp [cells2, show (a + 1) * 2 = a * 2 + 2 by omega]
def walkM (h0 : List O) (pl : Nat) (i : Int) (G : Dg) : List O :=
 (h0 ++ [.cells [.pointer (some ⟨pl, 0, none⟩)] 155 (some 0), .cells [.int .i64 i] 3 (some 0), .cells (cellsL (finL G)) 72 (some 0), .cells [.slice (some ⟨h0.length + 2, 0, none⟩) (2 * G.n) (2 * G.n)] 215 (some 0)]) ++ List.replicate (1 + 2 * G.n) .dead
def walkV (h0 : List O) : Value := .func (.func 212) #[] #[.pointer (some ⟨h0.length + 1, 0, none⟩), .pointer (some ⟨h0.length + 3, 0, none⟩), .pointer (some ⟨h0.length, 0, none⟩)]
structure WkI (h0 : List O) (pl : Nat) (i : Int) (N mb : Nat) (es : List MapEntry) (fin : Nat → Nat × Nat) (seen : List Nat) (H : List O) (e : List (Nat × Nat)) : Prop where
 sub : Sub h0 H
 b0 : AtB H h0.length (.cells [.pointer (some ⟨pl, 0, none⟩)] 155 (some 0))
 b1 : AtB H (h0.length + 1) (.cells [.int .i64 i] 3 (some 0))
 b2 : AtB H (h0.length + 2) (.cells (cellsL e) 72 (some 0))
 b3 : AtB H (h0.length + 3) (.cells [.slice (some ⟨h0.length + 2, 0, none⟩) N N] 215 (some 0))
 b4 : AtB H (h0.length + 4) (.iter (some mb) N seen N)
 len : H.length = h0.length + 5 + seen.length
 own : ∀ b o, h0.length + 5 ≤ b → H[b]? = some o → o.ro = false
 el : e.length = N
 met : ∀ y ∈ es, y.born ∈ seen → ∀ a : Nat, y.val = .int .i64 a → e[a]? = some (fin a)
 nd : seen.Nodup
 mem : ∀ b ∈ seen, ∃ y ∈ es, y.born = b
variable {E : Env} (hE : OE E)
include hE
theorem walk_ (hW : E.S 148 = none) {h0 : List O} {pl n : Nat} {x : Nat → Nat → Int} {s : Nat → Int} {L : Int} (hl : LnkP h0 pl n x s L) (hS : Snd n x s L) (i : Int) :
  PC E 148 [.pointer (some ⟨pl, 0, none⟩), .int .i64 i] ⟨h0, h0.length⟩ fun o s' => o = .ret (walkV h0) ∧ WeakK 4 ⟨h0, h0.length⟩ s' ⟨walkM h0 pl i (dgOf n x s L), h0.length⟩ := by
 refine PC_fn (hE.F _ _ rfl) hW ?_
 obtain ⟨G, hGe⟩ : ∃ G, G = dgOf n x s L := ⟨_, rfl⟩
 have hG : GoodG G := by rw [hGe]; exact good_of hS
 have hGn : G.n = n := by rw [hGe]; rfl
 have hGs : G.s = s := by rw [hGe]; rfl
 have hsz := hS.size
 obtain ⟨uv, xa, xc, ab, cb, mb, k1, k2, k3, k4, k5, hO, hk'⟩ := hl
 rw [← hGe] at k1 k3 k5 ⊢
 unfold linkC at k1
 obtain ⟨N, hN⟩ : ∃ N, N = 2 * n := ⟨_, rfl⟩
 rw [← hN] at k1 k5
 have hpl := (List.getElem?_eq_some_iff.1 k1).1
 have hk1 : ∀ l, (h0 ++ l)[pl]? = _ := fun l => app_of k1 l
 have e1 : (N : Int) * 16 ≤ 140737488355328 := by omega
 have e2 : (N : Int) < 4611686018427387904 := by omega
 unfold rb148
 refine PW_seqD ?_
 simp
 refine PW_seqD ?_
 simp [rd_at0, rd_at, rd_def, hk1, e1, e2, wrN_at, set_at, List.append_assoc]
 refine PW_seq (PW_seqD ?_)
 obtain ⟨H, hH⟩ : ∃ H, H = h0 ++ [O.cells [.pointer (some ⟨pl, 0, none⟩)] 155 (some 0), .cells [.int .i64 i] 3 (some 0), .cells (rep N [.int .i64 0, .int .i64 0]) 72 (some 0), .cells [.slice (some ⟨h0.length + 2, 0, none⟩) N N] 215 (some 0)] := ⟨_, rfl⟩
 have hlH : H.length = h0.length + 4 := by rw [hH]; simp
 rw [← hH]
 have hb0 : H[h0.length]? = some (.cells [.pointer (some ⟨pl, 0, none⟩)] 155 (some 0)) := by rw [hH, app_at0]; rfl
 have hm0 : H[mb]? = some (.map ((lE G.X s n).map (entG kcII)) N) := by rw [hH]; exact app_of k5 _
 have hp0 : H[pl]? = h0[pl]? := by rw [hH]; exact List.getElem?_append_left hpl
 rw [k1] at hp0
 have eI := rangeVS_ent (f := h0.length) hm0
 simp [rd_def, hb0, hp0, eI]
 have hGN : 2 * G.n = N := by rw [hGn, hN]
 have hpw : ((lE G.X s n).map (entG kcII)).Pairwise fun x y => x.born ≠ y.born := by
  rw [List.pairwise_map]; exact lE_pw _ _ _
 have hallk : ((lE G.X s n).map (entG kcII)).all (fun e => plain1 e.key) = true := by
  rw [List.all_map, List.all_eq_true]; intro y _; rfl
 have hmbl := (List.getElem?_eq_some_iff.1 k5).1
 refine PW_walkE (es := (lE G.X s n).map (entG kcII)) (bm := mb) (r := h0.length + 4) (clock := N) (seen := []) hpw hallk (fun seen fr H => (∃ e, WkI h0 pl i N mb ((lE G.X s n).map (entG kcII)) (finT G) seen H e) ∧ get fr 2 = .pointer (some ⟨h0.length, 0, none⟩) ∧ get fr 3 = .pointer (some ⟨h0.length + 1, 0, none⟩) ∧ get fr 5 = .pointer (some ⟨h0.length + 3, 0, none⟩) ∧ get fr 18 = .pointer (some ⟨h0.length + 4, 0, none⟩)) (by decide) (by omega) ?_ ?_ ?_ ?_
 ·rintro seen fr H ⟨⟨e, hI⟩, g2, g3, g5, g18⟩
  exact ⟨g18, hI.b4, hI.sub _ _ k5⟩
 ·rintro seen fr H y ⟨⟨e, hI⟩, g2, g3, g5, g18⟩ hy hys
  obtain ⟨z, hz, rfl⟩ := List.mem_map.1 hy
  obtain ⟨c, p, hc, hp, hz1, hz2⟩ := lE_is z hz
  have hq := (in_place (hS.sign c hc)).1 hp
  have hX := hG.X c p (by rw [hGn]; exact hc) hq.1
  have hfin := fin_of hG (by rw [hGn]; exact hc) hq.1 (by rw [hGs]; exact hq.2)
  have hXN : G.X c p < N := by rw [← hGN]; exact hX
  have b2 := hI.b2
  have b3 := hI.b3
  have b4 := hI.b4
  unfold AtB at b2 b3 b4
  have hHl := hI.len
  obtain ⟨H2, hH2⟩ : ∃ H2, H2 = H.set (h0.length + 4) (.iter (some mb) N (seen ++ [z.2.2]) N) := ⟨_, rfl⟩
  have hl2 : H2.length = H.length := by rw [hH2]; exact List.length_set
  have c2 : H2[h0.length + 2]? = some (.cells (cellsL e) 72 (some 0)) := by rw [hH2]; exact set_ne b2 (by omega)
  have c3 : H2[h0.length + 3]? = some (.cells [.slice (some ⟨h0.length + 2, 0, none⟩) N N] 215 (some 0)) := by rw [hH2]; exact set_ne b3 (by omega)
  have c4 : H2[h0.length + 4]? = some (.iter (some mb) N (seen ++ [z.2.2]) N) := by rw [hH2]; exact set_self b4
  have cm : H2[mb]? = some (.map ((lE G.X s n).map (entG kcII)) N) := by rw [hH2]; exact set_ne (hI.sub _ _ k5) (by omega)
  have eE := entryVS_E (f := h0.length) (x := entG kcII z) c4 cm (by simp [entG]) hpw hallk (List.mem_map.2 ⟨z, hz, rfl⟩)
  have ek : (entG kcII z).key = .agg #[.int .i64 c, .int .i64 p] := by unfold entG; rw [hz1]; rfl
  have ev : (entG kcII z).val = .int .i64 (G.X c p) := by unfold entG; rw [hz2]
  have eb : (entG kcII z).born = z.2.2 := rfl
  rw [ek, ev] at eE
  rw [ek, ev, eb, ← hH2]
  have cll := cellsL_len e
  have hel := hI.el
  have hroom : G.X c p * 2 + 2 ≤ (cellsL e).length := by omega
  have hse := cellsL_set (e := e) (a := G.X c p) (x := (c, p)) (by omega)
  simp only [cells2, setL_cons, setL_nil] at hse
  have hmin : min h0.length H2.length = h0.length := by omega
  have hmin2 : min h0.length (h0.length + 2) = h0.length := by omega
  have c2' : ∀ l, (H2 ++ l)[h0.length + 2]? = _ := fun l => app_of c2 l
  have c3' : ∀ l, (H2 ++ l)[h0.length + 3]? = _ := fun l => app_of c3 l
  simp [g2, g3, g5, g18, eE, wrN_at0, set_at0, rd_def, c3', rdN_at0, hXN, wrN_def, c2', hroom, hse, hmin, hmin2, app_at0]
  have hbz : z.2.2 ∉ seen := hys
  refine ⟨e.set (G.X c p) (c, p), ((by rw [hH2]; exact hI.sub.set (by omega) _ : Sub h0 H2).app _).set (by omega) _, set_ne (app_of ?_ _) (by omega), set_ne (app_of ?_ _) (by omega), set_self (c2' _), set_ne (c3' _) (by omega), set_ne (app_of c4 _) (by omega), by simp [hl2, hHl]; omega, fun b o hb ho => ?_, by simp [hel], fun y hy' hys' a hya => ?_, ?_, fun b hb => ?_⟩
  ·rw [hH2]; exact set_ne hI.b0 (by omega)
  ·rw [hH2]; exact set_ne hI.b1 (by omega)
  ·rw [List.getElem?_set_ne (by omega)] at ho
   by_cases hbl : b < H2.length
   ·rw [List.getElem?_append_left hbl, hH2, List.getElem?_set_ne (by omega)] at ho
    exact hI.own b o hb ho
   ·rw [List.getElem?_append_right (by omega)] at ho
    have h1 := (List.getElem?_eq_some_iff.1 ho).1
    simp at h1
    rw [show b - H2.length = 0 by omega] at ho
    simp at ho
    rw [← ho]; rfl
  ·obtain ⟨y0, hy0, rfl⟩ := List.mem_map.1 hy'
   have hyb : (entG kcII y0).born = y0.2.2 := rfl
   have hyv : (entG kcII y0).val = y0.2.1 := rfl
   obtain ⟨c', p', hc', hp', hy1, hy2⟩ := lE_is y0 hy0
   rw [hyv, hy2] at hya
   have hqa := (in_place (hS.sign c' hc')).1 hp'
   have hXa := hG.X c' p' (by rw [hGn]; exact hc') hqa.1
   simp only [Value.int.injEq, true_and] at hya
   have haX : a = G.X c' p' := by omega
   by_cases ea : a = G.X c p
   ·rw [ea, List.getElem?_set_self (by omega), hfin]
   ·rw [List.getElem?_set_ne (Ne.symm ea)]
    rcases List.mem_append.1 hys' with h1 | h1
    ·exact hI.met _ hy' h1 a (by rw [hyv, hy2, haX])
    ·simp at h1
     rw [hyb] at h1
     have := pw_eq (f := fun w : (Nat × Nat) × Value × Nat => w.2.2) (lE_pw G.X s n) hy0 hz h1
     subst this
     rw [hz2] at hy2
     simp only [Value.int.injEq, true_and] at hy2
     omega
  ·rw [List.nodup_append]
   refine ⟨hI.nd, by simp, fun a ha b hb => ?_⟩
   simp at hb
   rw [hb]; intro e'; rw [e'] at ha; exact hbz ha
  ·rcases List.mem_append.1 hb with h1 | h1
   ·exact hI.mem b h1
   ·simp at h1
    exact ⟨_, hy, h1.symm⟩
 ·rintro seen fr H' ⟨⟨e, hI⟩, g2, g3, g5, g18⟩ hall
  refine PW_of_DW ?_
  simp [g2, g3, g5, endK_ret]
  unfold pairQ back
  rw [if_neg (by simp [Out.scalar, scalar, flat1, flat])]
  have hbn : ((lE G.X s n).map fun w => w.2.2).Nodup := by
   have := lE_pw G.X s n
   exact List.pairwise_map.2 this
  have hlen : seen.length = N := by
   have a1 := nodup_le hI.nd (l := (lE G.X s n).map fun w => w.2.2) fun b hb => by
    obtain ⟨y, hy, rfl⟩ := hI.mem b hb
    obtain ⟨z, hz, rfl⟩ := List.mem_map.1 hy
    exact List.mem_map.2 ⟨z, hz, rfl⟩
   have a2 := nodup_le hbn (l := seen) fun b hb => by
    obtain ⟨z, hz, rfl⟩ := List.mem_map.1 hb
    exact hall _ (List.mem_map.2 ⟨z, hz, rfl⟩)
   rw [List.length_map, lE_length] at a1 a2
   omega
  have hfl : e = finL G := by
   apply List.ext_getElem?
   intro a
   by_cases ha : a < N
   ·obtain ⟨c, p, hcp⟩ : ∃ c p, (c, p) = finT G a := ⟨_, _, rfl⟩
    obtain ⟨t0, t1, t2, t3, x1, x2, _⟩ := hG.T a (by omega)
    have hd := (hG.dir a (by omega)).2
    have hc : G.T a 2 < n := by rw [← hGn]; exact t2
    obtain ⟨b, hb⟩ := lE_has (X := G.X) (s := s) hc ((in_place (hS.sign _ hc)).2 ⟨t3, by rw [← hGs]; exact hd⟩)
    have hm := hI.met (entG kcII _) (List.mem_map.2 ⟨_, hb, rfl⟩) (hall _ (List.mem_map.2 ⟨_, hb, rfl⟩)) a (by show Value.int .i64 (G.X (G.T a 2) (G.T a 3)) = _; rw [x2])
    rw [hm]
    simp [finL, hGN, ha]
   ·rw [List.getElem?_eq_none (by have := hI.el; omega), List.getElem?_eq_none (by simp [finL, hGN]; omega)]
  have hHl := hI.len
  refine ⟨rfl, rfl, by simp [walkM, hHl, hGN, hlen]; omega, fun b hb => ?_, fun b hb hb2 => ?_⟩
  ·simp only at hb ⊢
   unfold walkM
   rw [List.getElem?_append_left (by simp; omega)]
   rw [List.getElem?_set_ne (by omega)]
   by_cases h1 : b < h0.length
   ·rw [List.getElem?_append_left h1, hI.sub b h0[b] (List.getElem?_eq_getElem h1), List.getElem?_eq_getElem h1]
   ·obtain ⟨d, rfl⟩ : ∃ d, b = h0.length + d := ⟨b - h0.length, by omega⟩
    rw [app_at]
    match d, (show d < 4 by omega) with
    | 0, _ => exact hI.b0.symm
    | 1, _ => exact hI.b1.symm
    | 2, _ => rw [← hfl]; exact hI.b2.symm
    | 3, _ => rw [hGN]; exact hI.b3.symm
  ·simp only [walkM, List.length_append, List.length_cons, List.length_nil, List.length_replicate] at hb hb2 ⊢
   refine ⟨?_, fun o ho => ?_⟩
   ·rw [List.getElem?_append_right (by simp; omega), List.getElem?_replicate, if_pos]
    simp at hb2 ⊢
    omega
   ·by_cases h1 : b = h0.length + 4
    ·rw [h1, List.getElem?_set_self (by omega)] at ho
     obtain rfl := Option.some.inj ho
     rfl
    ·rw [List.getElem?_set_ne (by omega)] at ho
     exact hI.own b o (by omega) ho
 ·have hrep : ∀ k, rep k [Value.int .i64 0, .int .i64 0] = cellsL (List.replicate k (0, 0)) := fun k => by
   induction k with
   | zero => rfl
   | succ k ih =>
    show (List.replicate (k + 1) [Value.int .i64 0, .int .i64 0]).flatten = _
    rw [List.replicate_succ, List.flatten_cons, List.replicate_succ]
    show _ ++ rep k [Value.int .i64 0, .int .i64 0] = cells2 (0, 0) ++ cellsL (List.replicate k (0, 0))
    rw [ih]; rfl
  have hiter : (H ++ [O.iter (some mb) N [] N])[h0.length + 4]? = some (.iter (some mb) N [] N) := by rw [← hlH, app_at0]; rfl
  refine ⟨⟨List.replicate N (0, 0), fun b o hb => app_of (by rw [hH]; exact app_of hb _) _, app_of hb0 _, app_of (by rw [hH, app_at]; rfl) _, app_of (by rw [hH, app_at, ← hrep]; rfl) _, app_of (by rw [hH, app_at]; rfl) _, hiter, by simp [hlH], fun b o hb ho => ?_, by simp, fun y _ hy => by simp at hy, List.nodup_nil, fun b hb => by simp at hb⟩, ?_⟩
  ·have := (List.getElem?_eq_some_iff.1 ho).1
   simp [hlH] at this
   omega
  ·simp [hlH]
end Go.Proofs.Ytjlkndkedknocaa
namespace Go.Ai
theorem and3 {p : Nat} (hp : p < 4) : binV .and (.int .i64 ((p : Int) + 2)) (.int .i64 3) = some (.int .i64 (((p + 2) % 4 : Nat) : Int)) := by
 match p, hp with
 | 0, _ => rfl
 | 1, _ => rfl
 | 2, _ => rfl
 | 3, _ => rfl
end Go.Ai
namespace Go.Proofs.Ytjlkndkedknocaa
open Go Go.Ai
attribute [local instance] Classical.propDecidable
theorem cellsL_two : ∀ {l : List (Nat × Nat)} {j : Nat} {x : Nat × Nat}, l[j]? = some x → j * 2 + 2 ≤ (cellsL l).length ∧ ((cellsL l).drop (j * 2)).take 2 = cells2 x ∧ (cellsL l)[j * 2]? = some (.int .i64 x.1) ∧ (cellsL l)[j * 2 + 1]? = some (.int .i64 x.2)
 | [], j, x, h => by simp at h
 | y :: l, 0, x, h => by
  simp at h
  subst h
  have e : cellsL (y :: l) = cells2 y ++ cellsL l := rfl
  rw [e]
  simp [cells2]
 | y :: l, j + 1, x, h => by
  simp at h
  obtain ⟨h1, h2, h3, h4⟩ := cellsL_two h
  have e : cellsL (y :: l) = cells2 y ++ cellsL l := rfl
  rw [e, show (j + 1) * 2 = j * 2 + 2 by omega]
  simp only [cells2, List.cons_append, List.nil_append, List.length_cons, List.drop_succ_cons, List.getElem?_cons_succ, show j * 2 + 2 + 1 = (j * 2 + 1) + 2 by omega]
  exact ⟨by omega, h2, h3, h4⟩
theorem finL_at {G : Dg} {a : Nat} (h : a < 2 * G.n) : (finL G)[a]? = some (finT G a) := by simp [finL, h]
variable {E : Env} (hE : OE E)
include hE
theorem walk1_ {G : Dg} (hG : GoodG G) {pl k pf pe pL eb N m a0 : Nat} (ha0 : a0 < 2 * G.n) (hm : 0 < m) (hmend : itr (nx G) a0 m = a0) (hmid : ∀ i, 0 < i → i < m → itr (nx G) a0 i ≠ a0)
  {I : Nat → List O → Nat → Prop}
  (hdi : ∀ i h f, I i h f → h[pf]? = some (.cells [.int .i64 a0] 3 (some 0)) ∧ h[pe]? = some (.cells [.slice (some ⟨eb, 0, none⟩) (2 * G.n) (2 * G.n)] 215 (some 0)) ∧ h[eb]? = some (.cells (cellsL (finL G)) 72 (some 0)) ∧
   h[pL]? = some (.cells [.pointer (some ⟨pl, 0, none⟩)] 155 (some 0)) ∧ (∃ uv xa xc L av cnt cv kk mv, h[pl]? = some (.cells (linkC uv xa G.n xc L av cnt cv kk mv) 170 (some 0)) ∧ CrossP h xa G.n (fun i j => G.X i j) G.s) ∧ (0 < i → f < N))
  (hround : ∀ i h f, i < m → I i h f → DC E (yB + k) [endV (finT G (itr (nx G) a0 i))] ⟨h, h.length⟩ fun o st' => o = .ret (.bool true) ∧ I (i + 1) (joined ⟨h, f⟩ st').h (joined ⟨h, f⟩ st').fl)
  {h : List O} (hi : I 0 h h.length) (hN : N = h.length) :
  DC E 212 [tok k, .pointer (some ⟨pf, 0, none⟩), .pointer (some ⟨pe, 0, none⟩), .pointer (some ⟨pL, 0, none⟩)] ⟨h, h.length⟩ fun o st' => o = .ret (.tuple #[]) ∧ I m st'.h st'.fl := by
 refine hE.fnC (body := rb212) rfl ?_
 unfold rb212
 have hN2 := nx_perm hG
 have hsz := hG.size
 obtain ⟨f0, _⟩ := hdi 0 h h.length hi
 simp [rd_def, f0]
 refine DW_loop (fun kk fr st => ∃ i h f, i + kk = m ∧ i < m ∧ st = ⟨h, f⟩ ∧ I i h f ∧ get fr 0 = tok k ∧ get fr 1 = .pointer (some ⟨pf, 0, none⟩) ∧ get fr 2 = .pointer (some ⟨pe, 0, none⟩) ∧ get fr 3 = .pointer (some ⟨pL, 0, none⟩) ∧ get fr 5 = .int .i64 (itr (nx G) a0 i)) ?_ (k := m) ?_
 ·rintro kk fr st ⟨i, h1, f1, hik, him, rfl, hI, g0, g1, g2, g3, g5⟩
  obtain ⟨d1, d2, d3, d4, ⟨uv, xa, xc, L, av, cnt, cv, kc, mv, d5, d6⟩, d7⟩ := hdi _ _ _ hI
  have ha := hN2.itr_lt ha0 i
  have hr := hround i h1 f1 him hI
  have ha1 : itr (nx G) a0 (i + 1) = nx G (itr (nx G) a0 i) := rfl
  generalize itr (nx G) a0 i = a at ha hr ha1 g5
  have ha' : (a : Int) < 2 * (G.n : Int) := by omega
  obtain ⟨c1, c2, c3, c4⟩ := cellsL_two (finL_at ha)
  simp only [cells2] at c2
  simp only [endV] at hr
  simp [g0, g2, g5, rd_def, rdN_def, d2, d3, ha, ha', c1, c2, tok]
  refine hr.imp ?_
  rintro o st' ⟨rfl, hI'⟩
  simp only [callK_ret]
  generalize joined ⟨h1, f1⟩ st' = s1 at hI' ⊢
  obtain ⟨h2, f2⟩ := s1
  simp only at hI' ⊢
  obtain ⟨k1, k2, k3, k4, ⟨uv, xa, xc, L, av, cnt, cv, kc, mv, k5, k6⟩, k7⟩ := hdi _ _ _ hI'
  unfold linkC at k5
  obtain ⟨xb, xo, hxa, hxr⟩ := k6
  obtain rfl := hxa (by omega)
  obtain ⟨t0, t1, t2, t3, _⟩ := hG.T a ha
  have hf2 := k7 (by omega)
  have hq : (G.T a 3 + 2) % 4 < 4 := Nat.mod_lt _ (by omega)
  have hcr := rd_of_rdN (hxr _ t2) (show (G.T a 3 + 2) % 4 < 5 by omega)
  have hv : (crossC (fun j => (G.X (G.T a 2) j : Int)) (G.s (G.T a 2)))[(G.T a 3 + 2) % 4]? = some (.int .i64 (nx G a)) := by
   unfold nx
   generalize (G.T a 3 + 2) % 4 = q at hq ⊢
   match q, hq with
   | 0, _ => rfl
   | 1, _ => rfl
   | 2, _ => rfl
   | 3, _ => rfl
  rw [hv] at hcr
  rw [rd_def] at hcr
  have hw : IntKind.i64.wrap ((G.T a 3 : Int) + 2) = (G.T a 3 : Int) + 2 := by rw [w64_id] <;> omega
  have e1 : (finT G a).1 = G.T a 2 := rfl
  have e2 : (finT G a).2 = G.T a 3 := rfl
  rw [e1] at c3
  rw [e2] at c4
  have t2' : (G.T a 2 : Int) < G.n := by omega
  have hq' : (((G.T a 3 + 2) % 4 : Nat) : Int) < 4 := by omega
  have ha3 := and3 t3
  generalize (G.T a 3 + 2) % 4 = q at hq hcr hq' ha3
  by_cases hend : nx G a = a0
  ·have him' : i + 1 = m := by
    rcases Nat.lt_or_ge (i + 1) m with h | h
    ·exact absurd (ha1.trans hend) (hmid _ (by omega) h)
    ·omega
   subst him'
   have hqf : ¬ (h.length ≤ f2) := by omega
   simp [g0, g1, g2, g3, g5, rd_def, k1, k2, k3, k4, k5, ha, ha', c3, c4, hw, ha3, t2, t2', hq, hq', hcr, hend, endK_ret, back, Out.scalar, scalar, hqf]
   exact hI'
  ·have him' : i + 1 ≠ m := fun e => hend (by rw [← ha1, e]; exact hmend)
   simp [g0, g1, g2, g3, g5, rd_def, k1, k2, k3, k4, k5, ha, ha', c3, c4, hw, ha3, t2, t2', hq, hq', hcr, hend]
   exact ⟨kk - 1, by omega, i + 1, by omega, by omega, h2, f2, ⟨rfl, rfl⟩, hI', rfl, ha1.symm⟩
 ·exact ⟨0, h, h.length, by omega, hm, rfl, hi, by simp [itr]⟩
end Go.Proofs.Ytjlkndkedknocaa
namespace Go.Proofs.Ytjlkndkedknocaa
open Go Go.Ai
attribute [local instance] Classical.propDecidable
noncomputable def wordP (G : Dg) (x : Nat × Nat) : List Int := if x.2 = 0 then [gen G (G.X x.1 1) * G.s x.1] else []
noncomputable def ownP (G : Dg) (k : Int) (x : Nat × Nat) : Int := if x.2 = 0 ∧ nth (cpL G) (G.X x.1 1) = k then G.s x.1 else 0
def RndP (h : List O) (f base k N p8 p11 : Nat) (ws : List Int) (sm : Int) (st' : St) : Prop :=
 ∃ h' f' ov', joined ⟨h, f⟩ st' = ⟨h', f'⟩ ∧ base ≤ f' ∧ f' ≤ k ∧ h'[p8]? = some (.cells [ov'] 34 (some 0)) ∧ h'[p11]? = some (.cells [.int .i64 sm] 3 (some 0)) ∧
  OwnT h' N ov' ws.length (intsC ws) 3 1 ∧ h.length ≤ h'.length ∧ ∀ (b : Nat) (o : O), b < N → h[b]? = some o → b ≠ p8 → b ≠ p11 → h'[b]? = some o
variable {E : Env} (hE : OE E)
include hE
theorem roundL_ {h hL : List O} {f k pl n N base dB pc p7 p8 p11 i xc : Nat} {xa : Option Addr} {x : Nat → Nat → Int} {s : Nat → Int} {L : Int} {frL : Fr} {c p : Nat} {ws : List Int} {sm comp : Int} {ov : Value}
  (hk : h[k]? = some (.loop false 98 frL [44] (lcA 70 0) (lcB 70 0))) (g2 : get frL 2 = .pointer (some ⟨dB, 0, none⟩)) (g3 : get frL 3 = .pointer (some ⟨pc, 0, none⟩)) (g7 : get frL 7 = .pointer (some ⟨p7, 0, none⟩)) (g8 : get frL 8 = .pointer (some ⟨p8, 0, none⟩)) (g11 : get frL 11 = .pointer (some ⟨p11, 0, none⟩))
  (hl : LnkP hL pl n x s L) (hS : Snd n x s L) (hs : Sub hL h) (hdB : hL[dB]? = some (.cells [.slice xa n xc, .int .i64 L] 24 (some 0))) (hx : CrossP hL xa n x s) (hpc : hL[pc]? = some (.cells [.int .i64 comp] 3 (some 0)))
  (h7 : h[p7]? = some (.cells [.pointer (some ⟨pl, 0, none⟩)] 155 (some 0))) (h8 : h[p8]? = some (.cells [ov] 34 (some 0))) (h11 : h[p11]? = some (.cells [.int .i64 sm] 3 (some 0)))
  (hov : OwnT h N ov ws.length (intsC ws) 3 1) (hN : N ≤ h.length) (hws : ws.length ≤ 1000) (hsm : -1000 ≤ sm ∧ sm ≤ 1000) (hc : c < n) (hp : p < 4)
  (b0 : hL.length ≤ base) (b7 : p7 < N) (b8 : base ≤ p8) (b11 : base ≤ p11) (bk : base ≤ k) (bf : base ≤ f) (l7 : k < N) (l8 : p8 < N) (l11 : p11 < N) (n1 : p7 ≠ p8) (n2 : p7 ≠ p11) (n3 : p8 ≠ p11) :
  DC E (yB + k) [endV (c, p)] ⟨h, h.length⟩ fun o st' => o = .ret (.bool true) ∧ RndP h f base k N p8 p11 (ws ++ wordP (dgOf n x s L) (c, p)) (sm + ownP (dgOf n x s L) comp (c, p)) st' := by
 have lk := (List.getElem?_eq_some_iff.1 hk).1
 have m1 : k ≠ p7 := fun e => by subst e; rw [hk] at h7; cases h7
 have m2 : k ≠ p8 := fun e => by subst e; rw [hk] at h8; cases h8
 have m3 : k ≠ p11 := fun e => by subst e; rw [hk] at h11; cases h11
 obtain ⟨G, hGe⟩ : ∃ G, G = dgOf n x s L := ⟨_, rfl⟩
 have hG : GoodG G := by rw [hGe]; exact good_of hS
 have hGn : G.n = n := by rw [hGe]; rfl
 have hGs : G.s = s := by rw [hGe]; rfl
 have hX : ∀ i q, i < n → q < 4 → x i q = (G.X i q : Int) := fun i q hi hq => by rw [hGe]; exact sound_x hS hi hq
 have hsz := hS.size
 rw [← hGe]
 refine DC_yield (hE.Y k) hk rfl hE.c70_0a hE.c70_0b ?_
 unfold ra70_0
 simp [putAll, endV, wrN_at0, set_at0]
 obtain ⟨H0, hH0⟩ : ∃ H, H = h ++ [O.cells [.int .i64 c, .int .i64 p] 72 (some 0)] := ⟨_, rfl⟩
 have k0 : H0[k]? = some (.loop false 98 frL [44] (lcA 70 0) (lcB 70 0)) := by rw [hH0]; exact app_of hk _
 rw [← hH0]
 refine ⟨_, turn_eq k0, ?_⟩
 obtain ⟨H1, hH1⟩ : ∃ H, H = H0.set k (O.loop (!false) 98 frL [44] (lcA 70 0) (lcB 70 0)) := ⟨_, rfl⟩
 have K1 : ∀ (b : Nat) (o : O), h[b]? = some o → b ≠ k → H1[b]? = some o := fun b o hb hn => by rw [hH1]; exact set_ne (by rw [hH0]; exact app_of hb _) hn
 have L1 : H1.length = h.length + 1 := by rw [hH1, hH0]; simp
 have a9 : H1[h.length]? = some (.cells [.int .i64 c, .int .i64 p] 72 (some 0)) := by rw [hH1]; exact set_ne (by rw [hH0, app_at0]; rfl) (by omega)
 have kk1 : H1[k]? = some (.loop true 98 frL [44] (lcA 70 0) (lcB 70 0)) := by rw [hH1]; exact set_self k0
 have s1 : Sub hL H1 := by rw [hH1, hH0]; exact (hs.app _).set (by omega) _
 rw [← hH1]
 unfold rl70_0
 have hlow : min (min h.length k) k < h.length := by omega
 by_cases hp0 : p = 0
 ·subst hp0
  obtain ⟨xb, xo, hxa, hxr⟩ := hx
  obtain rfl := hxa (by omega)
  have hcr : rdN H1 xb (xo + c * 5) 5 = some (crossC (x c) (s c)) := s1.rdN (hxr c hc)
  rw [rdN_def] at hcr
  simp only [crossC] at hcr
  rw [hX c 0 hc (by omega), hX c 1 hc (by omega), hX c 2 hc (by omega), hX c 3 hc (by omega)] at hcr
  have d1 := s1 _ _ hdB
  have dc := s1 _ _ hpc
  obtain ⟨H2, hH2⟩ : ∃ H, H = H1 ++ [O.cells [.int .i64 (G.X c 0), .int .i64 (G.X c 1), .int .i64 (G.X c 2), .int .i64 (G.X c 3), .int .i64 (s c)] 107 (some 0)] := ⟨_, rfl⟩
  have L2 : H2.length = H1.length + 1 := by rw [hH2]; simp
  have K2 : ∀ (b : Nat) (o : O), H1[b]? = some o → H2[b]? = some o := fun b o hb => by rw [hH2]; exact app_of hb _
  have s2 : Sub hL H2 := fun b o hb => K2 _ _ (s1 b o hb)
  have q2 : H2[H1.length]? = some (O.cells [.int .i64 (G.X c 0), .int .i64 (G.X c 1), .int .i64 (G.X c 2), .int .i64 (G.X c 3), .int .i64 (s c)] 107 (some 0)) := by rw [hH2, app_at0]; rfl
  have hXlt := hG.X c 1 (by rw [hGn]; exact hc) (by omega)
  rw [hGn] at hXlt
  have hg := generator_ hE (hl.sub s2) hsz hXlt
  rw [← hGe] at hg
  have hgq : (arN G (G.X c 1) : Int) + 1 = gen G (G.X c 1) := rfl
  rw [hgq] at hg
  have hgv := gen_le hG (by rw [hGn]; exact hc) (show 1 < 4 by omega)
  have hac := arC_le G
  rw [hGn] at hac
  have w1 : IntKind.i64.wrap (gen G (G.X c 1) * s c) = gen G (G.X c 1) * s c := by
   rcases hS.sign c hc with e | e <;> rw [e] <;> rw [w64_id] <;> omega
  have e1 : wordP G (c, 0) = [gen G (G.X c 1) * s c] := by unfold wordP; rw [if_pos rfl, hGs]
  obtain ⟨H3, hH3⟩ : ∃ H, H = H2 ++ [O.cells [.int .i64 (gen G (G.X c 1) * s c)] 3 (some 0)] := ⟨_, rfl⟩
  have L3 : H3.length = H2.length + 1 := by rw [hH3]; simp
  have K3 : ∀ (b : Nat) (o : O), H2[b]? = some o → H3[b]? = some o := fun b o hb => by rw [hH3]; exact app_of hb _
  have hov3 : OwnT H3 N ov ws.length (intsC ws) 3 1 := hov.keep fun b s' _ hb e => K3 _ _ (K2 _ _ (K1 _ _ e (by omega)))
  have hread : readSlice H3 1 1 (some ⟨H2.length, 0, none⟩) = some [.int .i64 (gen G (G.X c 1) * s c)] := by rw [hH3]; simp [readSlice, rdN_at0]
  obtain ⟨b', H4, f4, happ, hb', hown, hf1, hf2, hL4, K4⟩ := append_T (fl := min h.length k) (c := 1) (bytes := 8) hov3 hread (by simp) (by simp) (by omega) (by simp only [roomMax]; omega) (by omega)
  have r2 := K2 _ _ (K1 _ _ h8 (Ne.symm m2))
  have r7 := K2 _ _ (K1 _ _ h7 (Ne.symm m1))
  have r11 := K2 _ _ (K1 _ _ h11 (Ne.symm m3))
  have r4 := K4 _ _ (K3 _ _ r2) (.inl l8)
  have kk4 := K4 _ _ (K3 _ _ (K2 _ _ kk1)) (.inl l7)
  obtain ⟨H5, hH5⟩ : ∃ H, H = H4.set p8 (O.cells [.slice (some ⟨b', 0, none⟩) (ws.length + 1) (ws.length + 1)] 34 (some 0)) := ⟨_, rfl⟩
  have kk5 : H5[k]? = some (.loop true 98 frL [44] (lcA 70 0) (lcB 70 0)) := by rw [hH5]; exact set_ne kk4 m2
  have t7 : H5[p7]? = some (.cells [.pointer (some ⟨pl, 0, none⟩)] 155 (some 0)) := by rw [hH5]; exact set_ne (K4 _ _ (K3 _ _ r7) (.inl b7)) n1
  have t11 : H5[p11]? = some (.cells [.int .i64 sm] 3 (some 0)) := by rw [hH5]; exact set_ne (K4 _ _ (K3 _ _ r11) (.inl l11)) (Ne.symm n3)
  have t13 : H5[H1.length]? = some (O.cells [.int .i64 (G.X c 0), .int .i64 (G.X c 1), .int .i64 (G.X c 2), .int .i64 (G.X c 3), .int .i64 (s c)] 107 (some 0)) := by
   rw [hH5]
   exact set_ne (K4 _ _ (K3 _ _ q2) (.inr fun c s e => by cases e)) (by omega)
  have s5 : Sub hL H5 := fun b o hb => by
   have := (List.getElem?_eq_some_iff.1 hb).1
   rw [hH5]
   exact set_ne (K4 _ _ (K3 _ _ (s2 b o hb)) (.inl (by omega))) (by omega)
  have dc5 := s5 _ _ hpc
  obtain ⟨uv, xa', xc', ab, cb, mb, z1, z2, z3, z4, z5, hO, hk'⟩ := hl.sub s5
  rw [← hGe] at z1 z4
  unfold linkC at z1
  have hcl : G.X c 1 < (cpL G).length := by have := hO.len; rw [← hGe] at this; omega
  have hX' : (G.X c 1 : Int) < 2 * (n : Int) := by omega
  have hq : h.length + 1 = H1.length := L1.symm
  rw [e1]
  have hend : ∀ (H6 : List O) (f6 : Nat) (sm' : Int), sm' = sm + ownP G comp (c, 0) → H6[k]? = some (.loop true 98 frL [44] (lcA 70 0) (lcB 70 0)) → H6[p11]? = some (.cells [.int .i64 sm'] 3 (some 0)) → (∀ b o, H5[b]? = some o → b ≠ p11 → H6[b]? = some o) → H6.length = H5.length → base ≤ f6 → f6 ≤ h.length →
    ∃ st4, turn true k ⟨H6, f6⟩ = some st4 ∧ RndP h f base k N p8 p11 (ws ++ [gen G (G.X c 1) * s c]) (sm + ownP G comp (c, 0)) st4 := fun H6 f6 sm' hsm' u1 u2 u3 u4 u5 u6 => by
   refine ⟨_, turn_eq u1, ?_⟩
   have hlow6 : min f6 k < h.length := by omega
   refine ⟨H6.set k (.loop (!true) 98 frL [44] (lcA 70 0) (lcB 70 0)), min f (min f6 k), .slice (some ⟨b', 0, none⟩) (ws.length + 1) (ws.length + 1), by simp only [joined]; rw [if_pos hlow6], by omega, by omega, ?_, ?_, ?_, ?_, fun b o hbN hb hn1 hn2 => ?_⟩
   ·refine set_ne (u3 _ _ ?_ n3) (Ne.symm m2)
    rw [hH5]; exact set_self r4
   ·rw [← hsm']; exact set_ne u2 (Ne.symm m3)
   ·have : OwnT H4 N (.slice (some ⟨b', 0, none⟩) (ws.length + 1) (ws.length + 1)) (ws ++ [gen G (G.X c 1) * s c]).length (intsC (ws ++ [gen G (G.X c 1) * s c])) 3 1 := by simpa [intsC] using hown
    refine this.keep fun b s' e1 e2 e3 => set_ne (u3 _ _ ?_ (by omega)) (by omega)
    rw [hH5]; exact set_ne e3 (by omega)
   ·rw [List.length_set, u4, hH5, List.length_set]; omega
   ·by_cases hbk : b = k
    ·subst hbk
     rw [hk] at hb
     obtain rfl := Option.some.inj hb
     exact set_self u1
    ·refine set_ne (u3 _ _ ?_ hn2) hbk
     rw [hH5]
     exact set_ne (K4 _ _ (K3 _ _ (K2 _ _ (K1 _ _ hb hbk))) (.inl hbN)) hn1
  have hmin : min f4 p8 ≤ h.length := by omega
  have hminA : min k H1.length = k := by omega
  by_cases hcomp : nth (cpL G) (G.X c 1) = comp
  ·have e2 : ownP G comp (c, 0) = s c := by unfold ownP; rw [if_pos ⟨rfl, hcomp⟩, hGs]
   have hw2 : IntKind.i64.wrap (sm + s c) = sm + s c := by rcases hS.sign c hc with e | e <;> rw [e] <;> rw [w64_id] <;> omega
   simp [g2, g3, g7, g8, g11, rd_def, rdN_def, a9, d1, dc, hc, hcr, wrN_at0, set_at0, app_at0, ← hH2, ← L2, r2, r7, q2, hminA, DC_of hg, bit, w1, ← hH3, happ, wrN_def, r4, ← hH5, t7, t13, z1, hX', hXlt, z4, intsC_get hcl, hcomp, dc5, t11, hw2]
   exact hend _ _ (sm + s c) (by rw [e2]) (set_ne kk5 m3) (set_self t11) (fun b o hb hn => set_ne hb hn) List.length_set (by omega) (by omega)
  ·have e2 : ownP G comp (c, 0) = 0 := by unfold ownP; rw [if_neg fun h => hcomp h.2]
   simp [g2, g3, g7, g8, g11, rd_def, rdN_def, a9, d1, dc, hc, hcr, wrN_at0, set_at0, app_at0, ← hH2, ← L2, r2, r7, q2, hminA, DC_of hg, bit, w1, ← hH3, happ, wrN_def, r4, ← hH5, t7, t13, z1, hX', hXlt, z4, intsC_get hcl, hcomp, dc5]
   exact hend H5 _ sm (by rw [e2, Int.add_zero]) kk5 t11 (fun b o hb _ => hb) rfl (by omega) (by omega)
 ·have hpz : ¬ (p : Int) = 0 := by omega
  have e1 : wordP G (c, p) = [] := if_neg hp0
  have e2 : ownP G comp (c, p) = 0 := if_neg (fun h => hp0 h.1)
  rw [e1, e2, List.append_nil, Int.add_zero]
  simp [rd_def, a9, hpz, hp0]
  refine ⟨_, turn_eq kk1, ?_⟩
  refine ⟨H1.set k (.loop (!true) 98 frL [44] (lcA 70 0) (lcB 70 0)), min f (min (min h.length k) k), ov, by simp only [joined]; rw [if_pos hlow], by omega, by omega, ?_, ?_, ?_, ?_, fun b o hbN hb hn1 hn2 => ?_⟩
  ·exact set_ne (K1 _ _ h8 (Ne.symm m2)) (Ne.symm m2)
  ·exact set_ne (K1 _ _ h11 (Ne.symm m3)) (Ne.symm m3)
  ·exact hov.keep fun b s' _ hb e => set_ne (K1 _ _ e (by omega)) (by omega)
  ·rw [List.length_set]; omega
  ·by_cases hbk : b = k
   ·subst hbk
    rw [hk] at hb
    obtain rfl := Option.some.inj hb
    exact set_self kk1
   ·exact set_ne (K1 _ _ hb hbk) hbk
end Go.Proofs.Ytjlkndkedknocaa
namespace Go.Proofs.Ytjlkndkedknocaa
open Go Go.Ai
attribute [local instance] Classical.propDecidable
noncomputable def perA (G : Dg) (a : Nat) : Nat := if h : ∃ P, (0 < P ∧ itr (nx G) a P = a ∧ P ≤ 2 * G.n) ∧ ∀ t, 0 < t → t < P → itr (nx G) a t ≠ a then h.choose else 1
theorem perA_spec {G : Dg} (hG : GoodG G) {a : Nat} (ha : a < 2 * G.n) : (0 < perA G a ∧ itr (nx G) a (perA G a) = a ∧ perA G a ≤ 2 * G.n) ∧ ∀ t, 0 < t → t < perA G a → itr (nx G) a t ≠ a := by
 have h := (nx_perm hG).period ha
 unfold perA
 rw [dif_pos h]
 exact h.choose_spec
noncomputable def wordT (G : Dg) (a : Nat) : Nat → List Int
 | 0 => []
 | i + 1 => wordT G a i ++ wordP G (finT G (itr (nx G) a i))
noncomputable def ownT (G : Dg) (k : Int) (a : Nat) : Nat → Int
 | 0 => 0
 | i + 1 => ownT G k a i + ownP G k (finT G (itr (nx G) a i))
theorem wordT_len (G : Dg) (a : Nat) : ∀ i, (wordT G a i).length ≤ i := by
 intro i
 induction i with
 | zero => exact Nat.le_refl _
 | succ i ih =>
  simp only [wordT, List.length_append, wordP]
  split
  ·simp; omega
  ·simp; omega
theorem ownT_le {G : Dg} (hG : GoodG G) {k : Int} {a : Nat} (ha : a < 2 * G.n) : ∀ i : Nat, -(i : Int) ≤ ownT G k a i ∧ ownT G k a i ≤ i := by
 intro i
 induction i with
 | zero => simp [ownT]
 | succ i ih =>
  obtain ⟨t0, t1, t2, t3, _⟩ := hG.T _ ((nx_perm hG).itr_lt ha i)
  have hs := hG.sign _ t2
  simp only [ownT, ownP]
  have e : (finT G (itr (nx G) a i)).1 = G.T (itr (nx G) a i) 2 := rfl
  rw [e]
  split
  ·rcases hs with h | h <;> rw [h] <;> omega
  ·omega
theorem joined_min {H h : List O} {f g : Nat} (h1 : f ≤ g) (h2 : g < H.length) : joined ⟨H, f⟩ ⟨h, g⟩ = ⟨h, f⟩ := by
 simp only [joined]
 rw [if_pos h2, Nat.min_eq_left h1]
variable {E : Env} (hE : OE E)
include hE
theorem rangeL_ {h hL : List O} {f0 pl n dB pc p7 p8 p11 pf pe pL eb xc a0 : Nat} {xa : Option Addr} {x : Nat → Nat → Int} {s : Nat → Int} {L : Int} {fr : Fr} {comp : Int} {ov : Value} {Q : Post}
  (g43 : get fr 43 = .func (.func 212) #[] #[.pointer (some ⟨pf, 0, none⟩), .pointer (some ⟨pe, 0, none⟩), .pointer (some ⟨pL, 0, none⟩)])
  (g2 : get fr 2 = .pointer (some ⟨dB, 0, none⟩)) (g3 : get fr 3 = .pointer (some ⟨pc, 0, none⟩)) (g7 : get fr 7 = .pointer (some ⟨p7, 0, none⟩)) (g8 : get fr 8 = .pointer (some ⟨p8, 0, none⟩)) (g11 : get fr 11 = .pointer (some ⟨p11, 0, none⟩))
  (hl : LnkP hL pl n x s L) (hS : Snd n x s L) (hs : Sub hL h) (hdB : hL[dB]? = some (.cells [.slice xa n xc, .int .i64 L] 24 (some 0))) (hx : CrossP hL xa n x s) (hpc : hL[pc]? = some (.cells [.int .i64 comp] 3 (some 0)))
  (h7 : h[p7]? = some (.cells [.pointer (some ⟨pl, 0, none⟩)] 155 (some 0))) (h8 : h[p8]? = some (.cells [emptyS] 34 (some 0))) (h11 : h[p11]? = some (.cells [.int .i64 0] 3 (some 0)))
  (ha0 : a0 < 2 * n) (hf : h[pf]? = some (.cells [.int .i64 a0] 3 (some 0))) (he : h[pe]? = some (.cells [.slice (some ⟨eb, 0, none⟩) (2 * n) (2 * n)] 215 (some 0))) (heb : h[eb]? = some (.cells (cellsL (finL (dgOf n x s L))) 72 (some 0))) (hLp : h[pL]? = some (.cells [.pointer (some ⟨pl, 0, none⟩)] 155 (some 0)))
  (l0 : f0 ≤ hL.length) (l8 : hL.length ≤ p8) (l11 : hL.length ≤ p11) (n1 : p7 ≠ p8) (n2 : p7 ≠ p11) (n3 : p8 ≠ p11) (n4 : pf ≠ p11)
  (hQ : ∀ h' ov', (∀ (b : Nat) (o : O), h[b]? = some o → b ≠ p8 → b ≠ p11 → h'[b]? = some o) → h'[p8]? = some (.cells [ov'] 34 (some 0)) → h'[p11]? = some (.cells [.int .i64 (ownT (dgOf n x s L) comp a0 (perA (dgOf n x s L) a0))] 3 (some 0)) →
   OwnT h' h.length ov' (wordT (dgOf n x s L) a0 (perA (dgOf n x s L) a0)).length (intsC (wordT (dgOf n x s L) a0 (perA (dgOf n x s L) a0))) 3 1 → Q .normal fr ⟨h', f0⟩) :
  DW E (.rangeF (.tmp 43) [44] 98 (lcA 70 0) (lcB 70 0)) fr ⟨h, f0⟩ Q := by
 obtain ⟨G, hGe⟩ : ∃ G, G = dgOf n x s L := ⟨_, rfl⟩
 have hG : GoodG G := by rw [hGe]; exact good_of hS
 have hGn : G.n = n := by rw [hGe]; rfl
 have hGs : G.s = s := by rw [hGe]; rfl
 have hsz := hS.size
 rw [← hGe] at heb hQ
 have haG : a0 < 2 * G.n := by rw [hGn]; exact ha0
 obtain ⟨⟨pm, pend, ple⟩, pmid⟩ := perA_spec hG haG
 have lp8 := (List.getElem?_eq_some_iff.1 h8).1
 have lp11 := (List.getElem?_eq_some_iff.1 h11).1
 have lp7 := (List.getElem?_eq_some_iff.1 h7).1
 have lpf := (List.getElem?_eq_some_iff.1 hf).1
 have lpe := (List.getElem?_eq_some_iff.1 he).1
 have leb := (List.getElem?_eq_some_iff.1 heb).1
 have lpL := (List.getElem?_eq_some_iff.1 hLp).1
 have hsl := hs.len
 refine DW_rangeF (f := 212) (vs := [tok h.length, .pointer (some ⟨pf, 0, none⟩), .pointer (some ⟨pe, 0, none⟩), .pointer (some ⟨pL, 0, none⟩)]) (by simp [g43]) (by decide) ?_
 obtain ⟨hK, hhK⟩ : ∃ H, H = h ++ [O.loop false 98 fr [44] (lcA 70 0) (lcB 70 0)] := ⟨_, rfl⟩
 have lK : hK.length = h.length + 1 := by rw [hhK]; simp
 have KK : ∀ (b : Nat) (o : O), h[b]? = some o → hK[b]? = some o := fun b o hb => by rw [hhK]; exact app_of hb _
 have kk : hK[h.length]? = some (.loop false 98 fr [44] (lcA 70 0) (lcB 70 0)) := by rw [hhK, app_at0]; rfl
 rw [← hhK, ← lK]
 have hlsub := fun (h' : List O) (hk : Sub hL h') => hl.sub hk
 have key := walk1_ hE hG (pl := pl) (k := h.length) (pf := pf) (pe := pe) (pL := pL) (eb := eb) (N := hK.length) (m := perA G a0) haG pm pend pmid
  (I := fun i h' f' => hL.length ≤ f' ∧ (0 < i → f' < hK.length) ∧ hK.length ≤ h'.length ∧ (∀ (b : Nat) (o : O), hK[b]? = some o → b ≠ p8 → b ≠ p11 → h'[b]? = some o) ∧
   ∃ ov, h'[p8]? = some (.cells [ov] 34 (some 0)) ∧ h'[p11]? = some (.cells [.int .i64 (ownT G comp a0 i)] 3 (some 0)) ∧ OwnT h' hK.length ov (wordT G a0 i).length (intsC (wordT G a0 i)) 3 1)
  ?_ ?_ (h := hK) ?_ rfl
 ·refine key.imp ?_
  rintro o ⟨h', f'⟩ ⟨rfl, i1, i2, i3, i4, ov, i5, i6, i7⟩
  simp only at i1 i2 i3 i4 i5 i6 i7
  have hf := i2 pm
  refine ⟨⟨_, rfl⟩, ⟨h'.set h.length .dead, f0⟩, ?_, ?_⟩
  ·have hfm : min f0 h.length = f0 := by omega
   rw [joined_min (f := f0) (H := hK) (h := h') (by omega) hf, over_eq (i4 _ _ kk (by omega) (by omega)), hfm]
  ·refine hQ (h'.set h.length .dead) ov (fun b o hb h1 h2 => ?_) ?_ ?_ ?_
   ·have := (List.getElem?_eq_some_iff.1 hb).1
    exact set_ne (i4 _ _ (KK _ _ hb) h1 h2) (by omega)
   ·exact set_ne i5 (by omega)
   ·exact set_ne i6 (by omega)
   ·have : OwnT h' h.length ov (wordT G a0 (perA G a0)).length (intsC (wordT G a0 (perA G a0))) 3 1 := by
     rcases i7 with h1 | ⟨h1, h2 | ⟨b, s', h3, h4, h5, h6⟩⟩
     ·exact .inl h1
     ·exact .inr ⟨h1, .inl h2⟩
     ·exact .inr ⟨h1, .inr ⟨b, s', h3, by omega, h5, h6⟩⟩
    rcases i7 with h1 | ⟨h1, h2 | ⟨b, s', h3, h4, h5, h6⟩⟩
    ·exact .inl h1
    ·exact .inr ⟨h1, .inl h2⟩
    ·exact .inr ⟨h1, .inr ⟨b, s', h3, by omega, set_ne h5 (by omega), h6⟩⟩
 ·rintro i h' f' ⟨i1, i2, i3, i4, _⟩
  have hsub' : Sub hL h' := fun b o hb => by
   have := (List.getElem?_eq_some_iff.1 hb).1
   exact i4 _ _ (KK _ _ (hs b o hb)) (by omega) (by omega)
  have hp8n : ∀ b c el, h[b]? = some (.cells c el (some 0)) → el ≠ 34 → b ≠ p8 := fun b c el hb hne e => by
   subst e; rw [hb] at h8; simp at h8; exact hne h8.2
  have hp11n : ∀ b c el, h[b]? = some (.cells c el (some 0)) → el ≠ 3 → b ≠ p11 := fun b c el hb hne e => by
   subst e; rw [hb] at h11; simp at h11; exact hne h11.2
  refine ⟨i4 _ _ (KK _ _ hf) (hp8n _ _ _ hf (by decide)) n4, ?_, ?_, ?_, ?_, i2⟩
  ·rw [hGn]; exact i4 _ _ (KK _ _ he) (hp8n _ _ _ he (by decide)) (hp11n _ _ _ he (by decide))
  ·exact i4 _ _ (KK _ _ heb) (hp8n _ _ _ heb (by decide)) (hp11n _ _ _ heb (by decide))
  ·exact i4 _ _ (KK _ _ hLp) (hp8n _ _ _ hLp (by decide)) (hp11n _ _ _ hLp (by decide))
  ·obtain ⟨uv, xa', xc', ab, cb, mb, z1, z2, z3, z4, z5, hO, hk'⟩ := hl.sub hsub'
   refine ⟨uv, xa', xc', L, _, _, _, _, _, by rw [hGn]; exact z1, ?_⟩
   rw [hGn, hGs]
   obtain ⟨xb, xo, y1, y2⟩ := z2
   refine ⟨xb, xo, y1, fun i hi => ?_⟩
   rw [y2 i hi, crossC_toNat hS hi, hGe]
   rfl
 ·rintro i h' f' him ⟨i1, i2, i3, i4, ov, i5, i6, i7⟩
  have hsub' : Sub hL h' := fun b o hb => by
   have := (List.getElem?_eq_some_iff.1 hb).1
   exact i4 _ _ (KK _ _ (hs b o hb)) (by omega) (by omega)
  obtain ⟨t0, t1, t2, t3, _⟩ := hG.T _ ((nx_perm hG).itr_lt haG i)
  have hwl := wordT_len G a0 i
  have hol := ownT_le hG (k := comp) haG i
  have hround := roundL_ hE (h := h') (hL := hL) (f := f') (k := h.length) (N := hK.length) (base := hL.length) (i := i) (c := G.T (itr (nx G) a0 i) 2) (p := G.T (itr (nx G) a0 i) 3) (ws := wordT G a0 i) (sm := ownT G comp a0 i)
   (i4 _ _ kk (by omega) (by omega)) g2 g3 g7 g8 g11 hl hS hsub' hdB hx hpc (i4 _ _ (KK _ _ h7) n1 n2) i5 i6 i7 i3 (by omega) (by omega) (by rw [← hGn]; exact t2) t3 (Nat.le_refl _) (by omega) l8 l11 (by omega) i1 (by omega) (by omega) (by omega) n1 n2 n3
  rw [← hGe] at hround
  refine hround.imp ?_
  rintro o st' ⟨rfl, h2, f2, ov2, hj, j1, j2, j3, j4, j5, j6, j7⟩
  rw [hj]
  refine ⟨rfl, j1, fun _ => by simp only; omega, by simp only; omega, fun b o hb h1 h2 => ?_, ov2, j3, j4, j5⟩
  exact j7 b o (List.getElem?_eq_some_iff.1 hb).1 (i4 b o hb h1 h2) h1 h2
 ·exact ⟨by omega, fun h => absurd h (Nat.lt_irrefl _), Nat.le_refl _, fun b o hb _ _ => hb, emptyS, KK _ _ h8, KK _ _ h11, .inl ⟨rfl, rfl, rfl⟩⟩
end Go.Proofs.Ytjlkndkedknocaa
