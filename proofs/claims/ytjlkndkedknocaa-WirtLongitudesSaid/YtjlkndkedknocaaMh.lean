/- Texts that were built one by one: Ra9, Ra10, Ra11, RaC, Wr3, Wc3, Wr7, Wr9, Wr10, Wr11, Wr8, Wo0, Wo1, AiO, Wo2, Wc4, Wc5, Wc6, Wc7, Wc8, Wc9. -/
import Derived.Test.YtjlkndkedknocaaMg
import Derived.Test.YtjlkndkedknocaaMf
import Derived.Test.YtjlkndkedknocaaMd
import Derived.Test.YtjlkndkedknocaaMe
import Derived.KernelRfl
set_option linter.unusedSimpArgs false
set_option linter.unusedVariables false
namespace Go.Ai
attribute [local instance] Classical.propDecidable
theorem cntP_sub {p q : Nat → Prop} : ∀ {n : Nat}, (∀ i, i < n → q i → p i) → cntP q n ≤ cntP p n := by
 intro n
 induction n with
 | zero => intro _; exact Nat.le_refl _
 | succ n ih =>
  intro h
  have := ih fun i hi => h i (by omega)
  simp only [cntP]
  by_cases hq : q n
  ·rw [if_pos hq, if_pos (h n (by omega) hq)]; omega
  ·rw [if_neg hq]; omega
theorem cntP_less {p q : Nat → Prop} {i0 : Nat} (hp : p i0) (hq : ¬ q i0) : ∀ {n : Nat}, (∀ i, i < n → q i → p i) → i0 < n → cntP q n < cntP p n := by
 intro n
 induction n with
 | zero => intro _ h; omega
 | succ n ih =>
  intro h hi
  have hs := cntP_sub (n := n) fun i hi => h i (show i < n + 1 by omega)
  simp only [cntP]
  by_cases e : i0 = n
  ·subst e
   rw [if_neg hq, if_pos hp]; omega
  ·have := ih (fun i hi => h i (by omega)) (by omega)
   by_cases hq : q n
   ·rw [if_pos hq, if_pos (h n (by omega) hq)]; omega
   ·rw [if_neg hq]; omega
theorem OwnT.scalar {h : List O} {lo k : Nat} {v : Value} {cs : List Value} {el : TypeId} {size : Nat} (ho : OwnT h lo v k cs el size) (hs : Ai.scalar v = true) (h' : List O) : OwnT h' lo v k cs el size := by
 rcases ho with h1 | ⟨h4, ⟨rfl, h5⟩ | ⟨b, s, rfl, h6⟩⟩
 ·exact .inl h1
 ·exact .inr ⟨h4, .inl ⟨rfl, h5⟩⟩
 ·simp [Ai.scalar, flat1, flat] at hs
theorem OwnT.low {h : List O} {lo lo' k : Nat} {v : Value} {cs : List Value} {el : TypeId} {size : Nat} (ho : OwnT h lo v k cs el size) (hl : lo' ≤ lo) : OwnT h lo' v k cs el size := by
 rcases ho with h1 | ⟨h0, h1⟩
 ·exact .inl h1
 ·rcases h1 with h1 | ⟨b, s, h1, h2, h3⟩
  ·exact .inr ⟨h0, .inl h1⟩
  ·exact .inr ⟨h0, .inr ⟨b, s, h1, Nat.le_trans hl h2, h3⟩⟩
end Go.Ai
namespace Go.Proofs.Ytjlkndkedknocaa
open Go Go.Ai
attribute [local instance] Classical.propDecidable
noncomputable def outN (bs : List Bool) (n : Nat) : Nat := cntP (fun i => bnth bs i = false) n
structure PcI (G : Dg) (c : Nat) (bs : List Bool) : Prop where
 len : bs.length = G.n
 root : bnth bs c = true
 conn : ∀ i, i < G.n → bnth bs i = true → Conn G c i
def Cl (G : Dg) (bs : List Bool) (k j : Nat) : Prop := ∀ k' q, k' < G.n → q < 4 → (k' < k ∨ k' = k ∧ q < j) → bnth bs k' = true → bnth bs (oth G (k', q)).1 = true
theorem Cl.step {G : Dg} {bs : List Bool} {k j : Nat} (h : Cl G bs k j) (hb : bnth bs (oth G (k, j)).1 = true) : Cl G bs k (j + 1) := by
 intro k' q h1 h2 h3 h4
 by_cases e : k' = k ∧ q = j
 ·rw [e.1, e.2]; exact hb
 ·exact h k' q h1 h2 (by omega) h4
theorem Cl.next {G : Dg} {bs : List Bool} {k j : Nat} (h : Cl G bs k j) (hb : bnth bs k = false ∨ 4 ≤ j) : Cl G bs (k + 1) 0 := by
 intro k' q h1 h2 h3 h4
 refine h k' q h1 h2 ?_ h4
 rcases hb with hb | hb
 ·left
  have : k' ≠ k := fun e => by rw [e, hb] at h4; cases h4
  omega
 ·omega
theorem PcI.set {G : Dg} (hG : GoodG G) {c k j : Nat} {bs : List Bool} (h : PcI G c bs) (hk : k < G.n) (hj : j < 4) (hb : bnth bs k = true) : PcI G c (bs.set (oth G (k, j)).1 true) := by
 have hn := (nb hG hk hj).1
 have hl := h.len
 refine ⟨by simp [hl], ?_, fun i hi => ?_⟩
 ·rw [bnth_set (by omega)]
  split
  ·rfl
  ·exact h.root
 ·rw [bnth_set (by omega)]
  split
  ·rename_i e
   intro _
   rw [e]
   exact (h.conn k hk hb).step j hj
  ·exact h.conn i hi
theorem outN_set {n i : Nat} {bs : List Bool} (hl : bs.length = n) (hi : i < n) (hb : bnth bs i = false) : outN (bs.set i true) n < outN bs n := by
 unfold outN
 refine cntP_less (i0 := i) hb ?_ (fun j hj => ?_) hi
 ·rw [bnth_set (by omega), if_pos rfl]; simp
 ·rw [bnth_set (by omega)]
  split
  ·intro h; cases h
  ·exact id
theorem Cl.iff {G : Dg} (hG : GoodG G) {c : Nat} {bs : List Bool} (h : PcI G c bs) (hc : c < G.n) (k : Cl G bs G.n 0) {i : Nat} (hi : i < G.n) : bnth bs i = true ↔ Conn G c i := by
 refine ⟨h.conn i hi, fun hC => ?_⟩
 have key : ∀ b, Conn G c b → bnth bs b = true := by
  intro b hb
  induction hb with
  | refl => exact h.root
  | @step b q hab hq ih => exact k b q (hab.lt hG hc) hq (.inl (hab.lt hG hc)) ih
 exact key i hC
variable {E : Env} (hE : OE E)
include hE
theorem piece_ {h0 : List O} {a : Option Addr} {n c : Nat} {x : Nat → Nat → Int} {s : Nat → Int} {L : Int} (hx : CrossP h0 a n x s) (hS : Snd n x s L) {e : Nat} (he : e < n) :
  DC E 193 [dV a n c L, .int .i64 e] ⟨h0, h0.length⟩ fun o st' => ∃ v l, o = .ret v ∧ h0.length ≤ st'.fl ∧ Sub h0 st'.h ∧ l = (List.range n).filter (fun i => decide (Conn (dgOf n x s L) e i)) ∧ OwnT st'.h h0.length v l.length (intsC (l.map Int.ofNat)) 3 1 := by
 refine hE.fnC (body := rb193) rfl ?_
 unfold rb193
 have hG := good_of hS
 have hoth := fun {y : Nat × Nat} (hy : InV (dgOf n x s L) y) h k => other_ hE (h0 := h) (a := a) (x := x) (c := c) k hS hy
 simp only [dV, endV] at hoth
 obtain ⟨G, hGe⟩ : ∃ G, G = dgOf n x s L := ⟨_, rfl⟩
 rw [← hGe] at hG ⊢
 simp only [← hGe] at hoth
 have hGn : G.n = n := by rw [hGe]; rfl
 have hsz := hG.size
 rw [hGn] at hsz
 obtain ⟨hB, hhB⟩ : ∃ H, H = h0 ++ [O.cells [.slice a n c, .int .i64 L] 24 (some 0)] := ⟨_, rfl⟩
 have lB : hB.length = h0.length + 1 := by rw [hhB]; simp
 have sB : Sub h0 hB := by rw [hhB]; exact (Sub.refl _).app _
 have bB : hB[h0.length]? = some (O.cells [.slice a n c, .int .i64 L] 24 (some 0)) := by rw [hhB, app_at0]; rfl
 have e1 : (n : Int) ≤ 140737488355328 := by omega
 have e2 : (n : Int) < 4611686018427387904 := by omega
 have hrep : rep n [Value.bool false] = boolsC (List.replicate n false) := by simp [rep, boolsC]
 have he1 : e + 1 ≤ n := by omega
 simp [dV, rd_at0, e1, e2, hrep, he, wrN_at, set_at, boolsC_set, List.append_assoc, he1]
 obtain ⟨m, hm⟩ : ∃ m, m = h0.length + 1 := ⟨_, rfl⟩
 rw [← hm] at lB ⊢
 refine DW_loop (fun kk fr st => ∃ (h : List O) (bs : List Bool) (ch : Bool), st = ⟨h, h0.length⟩ ∧ Sub hB h ∧ AtB h m (.cells (boolsC bs) 4 (some 0)) ∧ PcI G e bs ∧ (ch = true → outN bs n < kk) ∧ (ch = false → Cl G bs n 0) ∧ get fr 2 = .pointer (some ⟨h0.length, 0, none⟩) ∧ get fr 5 = .slice (some ⟨m, 0, none⟩) n n ∧ get fr 6 = .bool ch) ?_ (k := n + 1) ?_
 ·rintro kk fr st ⟨h, bs, ch, rfl, hsub, hatB, hI, hlt, hcl, g2, g5, g6⟩
  cases ch with
  | true =>
   have hlt' := hlt rfl
   simp [g2, g5, g6]
   refine DW_loop (fun kk' fr st => ∃ (k : Nat) (h : List O) (bs' : List Bool) (ch : Bool), k + kk' = n ∧ st = ⟨h, h0.length⟩ ∧ Sub hB h ∧ AtB h m (.cells (boolsC bs') 4 (some 0)) ∧ PcI G e bs' ∧ outN bs' n ≤ outN bs n ∧ (ch = true → outN bs' n < outN bs n) ∧ (ch = false → Cl G bs' k 0) ∧ get fr 2 = .pointer (some ⟨h0.length, 0, none⟩) ∧ get fr 5 = .slice (some ⟨m, 0, none⟩) n n ∧ get fr 6 = .bool ch ∧ get fr 7 = .int .i64 k) ?_ (k := n) ?_
   ·clear g2 g5 g6
    rintro kk' fr st ⟨k, h', bs', ch, hkk, rfl, hsub', hatB', hI', hle', hlt'', hcl', g2, g5, g6, g7⟩
    by_cases hk : k < n
    ·simp [g2, g5, g6, g7, hk]
     refine DW_loop (fun kk'' fr st => ∃ (j : Nat) (h : List O) (bs' : List Bool) (ch : Bool), j + kk'' = 4 ∧ st = ⟨h, h0.length⟩ ∧ Sub hB h ∧ AtB h m (.cells (boolsC bs') 4 (some 0)) ∧ PcI G e bs' ∧ outN bs' n ≤ outN bs n ∧ (ch = true → outN bs' n < outN bs n) ∧ (ch = false → Cl G bs' k j) ∧ get fr 2 = .pointer (some ⟨h0.length, 0, none⟩) ∧ get fr 5 = .slice (some ⟨m, 0, none⟩) n n ∧ get fr 6 = .bool ch ∧ get fr 7 = .int .i64 k ∧ get fr 8 = .int .i64 j) ?_ (k := 4) ?_
     ·clear g2 g5 g6 g7 hcl' hlt'' hle' hI' hatB' hsub'
      clear bs' h' ch
      rintro kk'' fr st ⟨j, h', bs', ch, hjk, rfl, hsub', hatB', hI', hle', hlt'', hcl', g2, g5, g6, g7, g8⟩
      have hat := hatB'
      unfold AtB at hat
      have hlen := hI'.len
      have hwk : IntKind.i64.wrap ((k : Int) + 1) = (k : Int) + 1 := by rw [w64_id] <;> omega
      have hwj : IntKind.i64.wrap ((j : Int) + 1) = (j : Int) + 1 := by rw [w64_id] <;> omega
      have hkb : k < bs'.length := by omega
      by_cases hj : j < 4
      ·have hj' : (j : Int) < 4 := by omega
       by_cases hb : bnth bs' k = true
       ·have hinV : InV G (k, j) := hG.inV (by rw [hGn]; exact hk) hj
        obtain ⟨o, ho⟩ : ∃ o, o = oth G (k, j) := ⟨_, rfl⟩
        have hnb := nb hG (c := k) (q := j) (by omega) hj
        have hot := hoth hinV
        rw [← ho] at hot hnb
        have ho1 : o.1 < n := by have := hnb.1; omega
        have hcs : CrossP h' a n x s := hx.sub (sB.trans hsub')
        have hb2 : h'[h0.length]? = some (O.cells [.slice a n c, .int .i64 L] 24 (some 0)) := hsub' _ _ bB
        obtain ⟨h1, hh1⟩ : ∃ H, H = h' ++ [O.cells [.int .i64 o.1, .int .i64 o.2] 72 (some 0)] := ⟨_, rfl⟩
        have s1 : Sub h' h1 := by rw [hh1]; exact (Sub.refl _).app _
        have b1 : h1[h'.length]? = some (O.cells [.int .i64 o.1, .int .i64 o.2] 72 (some 0)) := by rw [hh1, app_at0]; rfl
        have hat1 := s1 _ _ hat
        have hsl := hsub'.len
        have hmin : min h0.length h'.length = h0.length := by omega
        have hminm : min h0.length m = h0.length := by omega
        have hob : o.1 < bs'.length := by omega
        have hob1 : o.1 + 1 ≤ n := by omega
        by_cases hin : bnth bs' o.1 = true
        ·simp [g2, g5, g6, g7, g8, hj', rd_def, rdN_def, hat, boolsC_get hkb, hb, hk, hb2, DC_when hot, hcs, joined_fl, wrN_at0, set_at0, hmin, ← hh1, hat1, b1, boolsC_get hob, hin, ho1, hwj]
         refine ⟨kk'' - 1, by omega, j + 1, by omega, fun b o hb => s1 _ _ (hsub' _ _ hb), bs', hat1, hI', hle', ?_⟩
         cases ch with
         | true => exact .inr ⟨hlt'' rfl, rfl, by omega⟩
         | false => exact .inl ⟨(hcl' rfl).step (by rw [← ho]; exact hin), rfl, by omega⟩
        ·have hin' : bnth bs' o.1 = false := by simpa using hin
         simp [g2, g5, g6, g7, g8, hj', rd_def, rdN_def, wrN_def, hat, boolsC_get hkb, hb, hk, hb2, DC_when hot, hcs, joined_fl, wrN_at0, set_at0, hmin, ← hh1, hat1, b1, boolsC_get hob, hin', ho1, hwj, boolsC_set, hlen, hob1, hminm, hGn]
         have hlt3 := outN_set (n := n) (by omega) ho1 hin'
         refine ⟨kk'' - 1, by omega, j + 1, by omega, (hsub'.trans s1).set (by omega) _, bs'.set o.1 true, set_self hat1, ?_, by omega, by omega, by omega⟩
         rw [ho]
         exact hI'.set hG (by omega) hj hb
       ·have hb' : bnth bs' k = false := by simpa using hb
        simp [g2, g5, g6, g7, g8, hj', rd_def, hat, boolsC_get hkb, hb', hk, hwk]
        refine ⟨kk' - 1, by omega, k + 1, by omega, hsub', bs', hatB', hI', hle', ?_⟩
        cases ch with
        | true => exact .inr ⟨hlt'' rfl, rfl, by omega⟩
        | false => exact .inl ⟨(hcl' rfl).next (.inl hb'), rfl, by omega⟩
      ·have hj' : ¬ (j : Int) < 4 := by omega
       simp [g2, g5, g6, g7, g8, hj', hwk]
       refine ⟨kk' - 1, by omega, k + 1, by omega, hsub', bs', hatB', hI', hle', ?_⟩
       cases ch with
       | true => exact .inr ⟨hlt'' rfl, rfl, by omega⟩
       | false => exact .inl ⟨(hcl' rfl).next (.inr (by omega)), rfl, by omega⟩
     ·refine ⟨0, h', bs', ch, by omega, rfl, hsub', hatB', hI', hle', hlt'', hcl', ?_⟩
      simp [g2, g5, g6, g7]
    ·have hkn : k = n := by omega
     simp [g2, g5, g6, g7, hk]
     refine ⟨outN bs n, hlt', hsub', bs', hatB', hI', ?_⟩
     cases ch with
     | true => exact .inr ⟨hlt'' rfl, rfl⟩
     | false => exact .inl ⟨by rw [← hkn]; exact hcl' rfl, rfl⟩
   ·refine ⟨0, h, bs, false, by omega, rfl, hsub, hatB, hI, Nat.le_refl _, fun h => (by cases h), fun _ k' q _ _ h => (by omega), ?_⟩
    simp [g2, g5]
  | false =>
   have hclo := hcl rfl
   have hat := hatB
   unfold AtB at hat
   have hlen := hI.len
   have hsl := hsub.len
   have hml := (List.getElem?_eq_some_iff.1 hat).1
   simp [g2, g5, g6]
   refine DW_loop (fun kk' fr st => ∃ (i : Nat) (h' : List O) (v : Value), i + kk' = n ∧ st = ⟨h', h0.length⟩ ∧ Sub h h' ∧ OwnT h' h.length v ((List.range i).filter (fun i => bnth bs i)).length (intsC (((List.range i).filter (fun i => bnth bs i)).map Int.ofNat)) 3 1 ∧ get fr 5 = .slice (some ⟨m, 0, none⟩) n n ∧ get fr 10 = v ∧ get fr 11 = .int .i64 i) ?_ (k := n) ?_
   ·clear g2 g5 g6
    rintro kk' fr st ⟨i, h', v, hik, rfl, hsub', hT, g5, g10, g11⟩
    have hat' := hsub' _ _ hat
    have hw : IntKind.i64.wrap ((i : Int) + 1) = (i : Int) + 1 := by rw [w64_id] <;> omega
    by_cases hi : i < n
    ·have hib : i < bs.length := by omega
     have hfl := List.length_filter_le (fun i => bnth bs i) (List.range i)
     rw [List.length_range] at hfl
     by_cases hb : bnth bs i = true
     ·have hsl' := hsub'.len
      obtain ⟨h3, hh3⟩ : ∃ H, H = h' ++ [O.cells [.int .i64 i] 3 (some 0)] := ⟨_, rfl⟩
      have s3 : Sub h' h3 := by rw [hh3]; exact (Sub.refl _).app _
      have hl3 := s3.len
      have hrd : readSlice h3 1 1 (some ⟨h'.length, 0, none⟩) = some [.int .i64 i] := slice_read (by rw [hh3, app_at0]; rfl) rfl
      obtain ⟨b', h4, f4, happ, hb', hT4, hf4, hf4', hl4, hk4⟩ := append_T (fl := h0.length) (c := 1) (bytes := 8) (hT.keep (h' := h3) fun b s _ _ e => s3 _ _ e) hrd rfl rfl (by omega) (by simp only [roomMax]; omega) (by omega)
      have hf : f4 = h0.length := by omega
      simp [g5, g10, g11, hi, rd_def, hat', boolsC_get hib, hb, ← hh3, happ, hf, hw]
      have hfs : (List.range (i + 1)).filter (fun i => bnth bs i) = (List.range i).filter (fun i => bnth bs i) ++ [i] := by
       rw [List.range_succ, List.filter_append]; simp [hb]
      refine ⟨kk' - 1, by omega, i + 1, by omega, fun b o hb => hk4 b o (s3 _ _ (hsub' _ _ hb)) (.inl (List.getElem?_eq_some_iff.1 hb).1), _, ?_, rfl, by omega⟩
      rw [hfs, List.map_append, List.length_append]
      simp only [intsC, List.map_append] at hT4 ⊢
      exact hT4
     ·have hb' : bnth bs i = false := by simpa using hb
      simp [g5, g10, g11, hi, rd_def, hat', boolsC_get hib, hb', hw]
      have hfs : (List.range (i + 1)).filter (fun i => bnth bs i) = (List.range i).filter (fun i => bnth bs i) := by
       rw [List.range_succ, List.filter_append]; simp [hb']
      exact ⟨kk' - 1, by omega, i + 1, by omega, hsub', v, by rw [hfs]; exact hT, rfl, by omega⟩
    ·have hin : i = n := by omega
     subst hin
     simp [g5, g10, g11, endK_ret]
     have hfe : (List.range i).filter (fun i => bnth bs i) = (List.range i).filter (fun i => decide (Conn G e i)) := by
      refine List.filter_congr fun j hj => ?_
      rw [List.mem_range] at hj
      rw [Bool.eq_iff_iff, decide_eq_true_iff]
      exact Cl.iff hG hI (by omega) (by rw [hGn]; exact hclo) (by omega)
     rw [hfe] at hT
     have hT0 := hT.low (lo' := h0.length) (by omega)
     unfold pairQ back
     split
     ·rename_i hc
      rw [Bool.and_eq_true] at hc
      exact ⟨v, rfl, Nat.le_refl _, Sub.refl _, hT0.scalar hc.1 _⟩
     ·exact ⟨v, rfl, Nat.le_refl _, sB.trans (hsub.trans hsub'), hT0⟩
   ·refine ⟨0, h, emptyS, by omega, rfl, Sub.refl _, .inl ⟨rfl, by simp, by simp [intsC]⟩, ?_⟩
    simp [g5]
 ·refine ⟨_, (List.replicate n false).set e true, true, rfl, ?_, ?_, ⟨?_, ?_, fun i hi => ?_⟩, fun _ => ?_, fun h => (by cases h), ?_⟩
  ·rw [hhB]
   exact Ext.sub ⟨[O.cells (boolsC ((List.replicate n false).set e true)) 4 (some 0)], by simp⟩
  ·unfold AtB
   rw [hm, app_at]
   simp
  ·simp [hGn]
  ·rw [bnth_set (by simp; omega), if_pos rfl]
  ·rw [bnth_set (by simp; omega)]
   split
   ·rename_i e'
    intro _; rw [e']; exact .refl _
   ·rw [bnth_rep (by omega)]
    intro h; cases h
  ·have := cntP_le (fun i => bnth ((List.replicate n false).set e true) i = false) n
   unfold outN; omega
  ·simp
end Go.Proofs.Ytjlkndkedknocaa
namespace Go.Ai
attribute [local instance] Classical.propDecidable
theorem filter_cnt (p : Nat → Prop) : ∀ n, ((List.range n).filter fun i => decide (p i)).length = cntP p n := by
 intro n
 induction n with
 | zero => rfl
 | succ n ih =>
  rw [List.range_succ, List.filter_append, List.length_append, ih]
  simp only [cntP]
  by_cases h : p n
  ·simp [h]
  ·simp [h]
end Go.Ai
namespace Go.Proofs.Ytjlkndkedknocaa
open Go Go.Ai
attribute [local instance] Classical.propDecidable
noncomputable def pieceL (G : Dg) (c : Nat) : List Nat := (List.range G.n).filter fun i => decide (Conn G c i)
theorem pieceL_mem {G : Dg} {c i : Nat} : i ∈ pieceL G c ↔ i < G.n ∧ Conn G c i := by simp [pieceL]
theorem pieceL_len (G : Dg) (c : Nat) : (pieceL G c).length = cntP (fun i => Conn G c i) G.n := filter_cnt _ _
theorem pieceL_nodup (G : Dg) (c : Nat) : (pieceL G c).Nodup := List.nodup_range.filter _
theorem pieceL_conn {G : Dg} (hG : GoodG G) {c d : Nat} (hc : c < G.n) (h : Conn G c d) : pieceL G d = pieceL G c := by
 unfold pieceL
 refine List.filter_congr fun i hi => ?_
 rw [Bool.eq_iff_iff, decide_eq_true_iff, decide_eq_true_iff]
 exact ⟨fun k => h.trans k, fun k => (h.symm hG hc).trans k⟩
def PlanC (G : Dg) (c : Nat) : Prop := cntP (fun t => Conn G c (rhead G t)) (regs G).length = 2 + cntP (fun i => Conn G c i) G.n
theorem planC_conn {G : Dg} (hG : GoodG G) {c d : Nat} (hc : c < G.n) (h : Conn G c d) : PlanC G d ↔ PlanC G c := by
 have e : ∀ i, Conn G d i ↔ Conn G c i := fun i => ⟨fun k => h.trans k, fun k => (h.symm hG hc).trans k⟩
 unfold PlanC
 rw [cntP_congr fun t _ => e (rhead G t), cntP_congr fun i _ => e i]
theorem plan_heads {G : Dg} (hG : GoodG G) : PlanG G ↔ ∀ c, c < G.n → (pieceL G c)[0]? = some c → PlanC G c := by
 constructor
 ·intro h c hc _; exact h c hc
 ·intro h c hc
  have hm : c ∈ pieceL G c := pieceL_mem.2 ⟨hc, .refl _⟩
  obtain ⟨d, l, hl⟩ : ∃ d l, pieceL G c = d :: l := by
   cases hp : pieceL G c with
   | nil => rw [hp] at hm; cases hm
   | cons d l => exact ⟨d, l, rfl⟩
  have hd : d ∈ pieceL G c := by rw [hl]; exact List.mem_cons_self
  obtain ⟨d1, d2⟩ := pieceL_mem.1 hd
  refine (planC_conn hG hc d2).1 (h d d1 ?_)
  rw [pieceL_conn hG hc d2, hl]; rfl
def natsC (l : List Nat) : List Value := l.map fun i => .int .i64 (i : Nat)
theorem natsC_eq (l : List Nat) : intsC (l.map Int.ofNat) = natsC l := by simp [intsC, natsC]
theorem natsC_get {l : List Nat} {i a : Nat} (h : l[i]? = some a) : (natsC l)[i]? = some (.int .i64 a) := by simp [natsC, h]
variable {E : Env} (hE : OE E)
include hE
theorem planar_ {h0 : List O} {a : Option Addr} {n c : Nat} {x : Nat → Nat → Int} {s : Nat → Int} {L : Int} (hx : CrossP h0 a n x s) (hS : Snd n x s L) :
  DR E 135 [dV a n c L] ⟨h0, h0.length⟩ (.ret (.bool (decide (PlanG (dgOf n x s L))))) ⟨h0, h0.length⟩ := by
 refine hE.fn (body := rb135) rfl ?_
 unfold rb135
 have hG := good_of hS
 obtain ⟨hB, hhB⟩ : ∃ H, H = h0 ++ [O.cells [.slice a n c, .int .i64 L] 24 (some 0)] := ⟨_, rfl⟩
 have lB : hB.length = h0.length + 1 := by rw [hhB]; simp
 have sB : Sub h0 hB := by rw [hhB]; exact (Sub.refl _).app _
 have bB : hB[h0.length]? = some (O.cells [.slice a n c, .int .i64 L] 24 (some 0)) := by rw [hhB, app_at0]; rfl
 have hxB : CrossP hB a n x s := hx.sub sB
 have hreg := regionsR_ hE (c := c) hxB hS
 have hpie := fun {e : Nat} (he : e < n) h k => piece_ hE (h0 := h) (a := a) (x := x) (c := c) k hS he
 simp only [dV] at hpie hreg
 obtain ⟨G, hGe⟩ : ∃ G, G = dgOf n x s L := ⟨_, rfl⟩
 rw [← hGe] at hG hreg ⊢
 simp only [← hGe] at hpie
 have hGn : G.n = n := by rw [hGe]; rfl
 have hpl : ∀ e, (List.range n).filter (fun i => decide (Conn G e i)) = pieceL G e := fun e => by unfold pieceL; rw [hGn]
 simp only [hpl] at hpie
 have hsz := hG.size
 rw [hGn] at hsz
 have hbad : ∀ h' f, h0.length ≤ f → ¬ PlanG G → pairQ (back ⟨h0, h0.length⟩ (.ret (.bool false)) ⟨h', f⟩) fun o2 st2 => o2 = .ret (.bool (decide (PlanG G))) ∧ st2 = ⟨h0, h0.length⟩ := fun h' f hf hm => by
  unfold pairQ
  rw [back_scalar (by simp [Out.scalar, scalar, flat1, flat]) hf]
  simp [hm]
 have hgood : ∀ h' f, h0.length ≤ f → PlanG G → pairQ (back ⟨h0, h0.length⟩ (.ret (.bool true)) ⟨h', f⟩) fun o2 st2 => o2 = .ret (.bool (decide (PlanG G))) ∧ st2 = ⟨h0, h0.length⟩ := fun h' f hf hm => by
  unfold pairQ
  rw [back_scalar (by simp [Out.scalar, scalar, flat1, flat]) hf]
  simp [hm]
 simp [dV, rdN_at0]
 rw [← hhB, ← lB]
 refine hreg.imp ?_
 rintro o ⟨h1, f1⟩ ⟨v, rfl, hf1, hs1, hR⟩
 simp only at hf1 hs1 hR
 obtain ⟨ra, rfl, hat⟩ := hR.at_
 obtain ⟨R, hRe⟩ : ∃ R, R = (regs G).length := ⟨_, rfl⟩
 have hRl : R ≤ 4 * n := by rw [hRe, ← hGn]; exact regs_len
 have hb1 := hs1 _ _ bB
 simp [joined_fl, hf1]
 rw [← hRe]
 refine DW_loop (fun kk fr st => ∃ (i : Nat) (h : List O), i + kk = n ∧ st = ⟨h, h0.length⟩ ∧ Sub h1 h ∧ (∀ c, c < i → (pieceL G c)[0]? = some c → PlanC G c) ∧ get fr 1 = .pointer (some ⟨h0.length, 0, none⟩) ∧ get fr 3 = .slice ra R R ∧ get fr 4 = .int .i64 i) ?_ (k := n) ?_
 ·rintro kk fr st ⟨i, h, hik, rfl, hsub, hP, g1, g3, g4⟩
  have hb2 := hsub _ _ hb1
  by_cases hi : i < n
  ·have hw : IntKind.i64.wrap ((i : Int) + 1) = (i : Int) + 1 := by rw [w64_id] <;> omega
   have hpc := hpie hi h (hx.sub (sB.trans (hs1.trans hsub)))
   simp [g1, g3, g4, hi, rd_def, rdN_def, hb2]
   refine hpc.imp ?_
   rintro o ⟨h2, f2⟩ ⟨v, l, rfl, hf2, hs2, rfl, hT⟩
   simp only at hf2 hs2 hT
   rw [natsC_eq] at hT
   obtain ⟨pa, rfl, hpa⟩ := hT.look
   have him : i ∈ pieceL G i := pieceL_mem.2 ⟨by omega, .refl _⟩
   obtain ⟨N, hN⟩ : ∃ N, N = (pieceL G i).length := ⟨_, rfl⟩
   have hN0 : 0 < N := by rw [hN]; exact List.length_pos_of_mem him
   have hNn : N ≤ n := by rw [hN, pieceL_len, ← hGn]; exact cntP_le _ _
   rw [← hN] at hpa
   obtain ⟨pb, ps, rfl, hpb, hpc⟩ := hpa hN0
   obtain ⟨d, hd⟩ : ∃ d, (pieceL G i)[0]? = some d := ⟨_, List.getElem?_eq_getElem (by omega)⟩
   have hd' := natsC_get hd
   have hl2 := hs2.len
   by_cases hdi : d = i
   ·rw [hdi] at hd hd'
    obtain ⟨l, hl⟩ : ∃ l, l = pieceL G i := ⟨_, rfl⟩
    have hnd : l.Nodup := by rw [hl]; exact pieceL_nodup G i
    have hmem : ∀ t, t < R → (rhead G t ∈ l ↔ Conn G i (rhead G t)) := fun t ht => by
     rw [hl, pieceL_mem]
     exact ⟨fun h => h.2, fun h => ⟨rhead_lt hG (by omega), h⟩⟩
    rw [← hl] at hN hpc hd hd'
    simp [joined_fl, hf2, g1, g3, g4, rd_def, hpc, hd', hN0, ← hl, ← hN]
    refine DW_loop (fun kk' fr st => ∃ (t : Nat), t + kk' = R ∧ st = ⟨h2, h0.length⟩ ∧ get fr 1 = .pointer (some ⟨h0.length, 0, none⟩) ∧ get fr 3 = .slice ra R R ∧ get fr 4 = .int .i64 i ∧ get fr 5 = .slice (some ⟨pb, 0, none⟩) N N ∧ get fr 6 = .int .i64 (cntP (fun t => Conn G i (rhead G t)) t) ∧ get fr 7 = .int .i64 t) ?_ (k := R) ?_
    ·clear g1 g3 g4
     rintro kk' fr st ⟨t, htk, rfl, g1, g3, g4, g5, g6, g7⟩
     have hcl := cntP_le (fun t => Conn G i (rhead G t)) t
     obtain ⟨F, hF⟩ : ∃ F, F = cntP (fun t => Conn G i (rhead G t)) t := ⟨_, rfl⟩
     rw [← hF] at g6 hcl
     by_cases ht : t < R
     ·have hwt : IntKind.i64.wrap ((t : Int) + 1) = (t : Int) + 1 := by rw [w64_id] <;> omega
      obtain ⟨e, r, he, hre, her, hrh⟩ := regs_at hG (t := t) (by omega)
      obtain ⟨b, b', s1, s2, vs, hra, q1, q2, q3, q4, q5⟩ := hat t (e :: r) hre (by simp)
      have q3' := hs2 _ _ (hsub _ _ q3)
      have q5' := hs2 _ _ (hsub _ _ q5)
      have q5c : cellsL (e :: r) = .int .i64 e.1 :: .int .i64 e.2 :: cellsL r := rfl
      rw [q5c] at q5'
      simp [g1, g3, g4, g5, g6, g7, ht]
      refine DW_loop (fun kk'' fr st => ∃ (j : Nat), j + kk'' = N ∧ st = ⟨h2, h0.length⟩ ∧ get fr 1 = .pointer (some ⟨h0.length, 0, none⟩) ∧ get fr 3 = .slice ra R R ∧ get fr 4 = .int .i64 i ∧ get fr 5 = .slice (some ⟨pb, 0, none⟩) N N ∧ get fr 6 = .int .i64 (F + (if rhead G t ∈ l.take j then 1 else 0 : Nat)) ∧ get fr 7 = .int .i64 t ∧ get fr 8 = .int .i64 j) ?_ (k := N) ?_
      ·clear g1 g3 g4 g5 g6 g7
       rintro kk'' fr st ⟨j, hjk, rfl, g1, g3, g4, g5, g6, g7, g8⟩
       by_cases hj : j < N
       ·have hwj : IntKind.i64.wrap ((j : Int) + 1) = (j : Int) + 1 := by rw [w64_id] <;> omega
        obtain ⟨p, hp⟩ : ∃ p, l[j]? = some p := ⟨_, List.getElem?_eq_getElem (by omega)⟩
        have hp' := natsC_get hp
        have htk2 : l.take (j + 1) = l.take j ++ [p] := by rw [List.take_add_one, hp]; rfl
        have hnt : p ∉ l.take j := fun hm => by
         have h1 : (l.take (j + 1)).Nodup := hnd.sublist (List.take_sublist _ _)
         rw [htk2, List.nodup_append] at h1
         exact h1.2.2 p hm p (by simp) rfl
        by_cases hpe : e.1 = p
        ·have hif0 : rhead G t ∉ l.take j := by rw [hrh, hpe]; exact hnt
         have hif1 : rhead G t ∈ l.take (j + 1) := by rw [hrh, hpe, htk2]; simp
         have hwF : IntKind.i64.wrap ((F : Int) + 1) = (F : Int) + 1 := by rw [w64_id] <;> omega
         rw [if_neg hif0] at g6
         simp [g1, g3, g4, g5, g6, g7, g8, hj, hra, rd_def, q3', q4, q5', hpc, hp', hpe, hwj, ht, hwF]
         exact ⟨kk'' - 1, by omega, j + 1, by omega, by rw [if_pos hif1]; rfl, by omega⟩
        ·have hpe' : ¬ (e.1 : Int) = p := by omega
         have hif : (rhead G t ∈ l.take (j + 1)) ↔ rhead G t ∈ l.take j := by rw [htk2, hrh]; simp [hpe]
         simp [g1, g3, g4, g5, g6, g7, g8, hj, hra, rd_def, q3', q4, q5', hpc, hp', hpe, hwj, ht]
         exact ⟨kk'' - 1, by omega, j + 1, by omega, by simp only [hif], by omega⟩
       ·have hjN : j = N := by omega
        subst hjN
        rw [show l.take j = l from List.take_of_length_le (by omega)] at g6
        simp [g1, g3, g4, g5, g6, g7, g8, hwt]
        refine ⟨kk' - 1, by omega, t + 1, by omega, ?_, by omega⟩
        simp only [cntP]
        rw [← hF]
        by_cases hc : rhead G t ∈ l
        ·rw [if_pos hc, if_pos ((hmem t ht).1 hc)]; omega
        ·rw [if_neg hc, if_neg (fun h => hc ((hmem t ht).2 h))]; omega
      ·refine ⟨0, by omega, rfl, ?_⟩
       simp [g1, g3, g4, g5, g6, g7]
     ·have htR : t = R := by omega
      have hwN : IntKind.i64.wrap ((N : Int) + 2) = (N : Int) + 2 := by rw [w64_id] <;> omega
      have hPC : PlanC G i ↔ F = 2 + N := by
       unfold PlanC
       rw [← hRe, ← htR, ← hF, ← pieceL_len, ← hl, ← hN]
      by_cases hFN : F = N + 2
      ·have hFN' : (F : Int) = N + 2 := by omega
       simp [g1, g3, g4, g5, g6, g7, ht, hwN, hFN, hw]
       refine ⟨kk - 1, by omega, i + 1, by omega, hsub.trans hs2, fun c hc hc2 => ?_, by omega⟩
       by_cases e : c = i
       ·subst e; exact hPC.2 (by omega)
       ·exact hP c (by omega) hc2
      ·have hFN' : ¬ (F : Int) = N + 2 := by omega
       simp [g1, g3, g4, g5, g6, g7, ht, hwN, hFN', hw]
       intro hPG
       have h3 := hPC.1 (hPG i (by omega))
       omega
    ·refine ⟨0, by omega, rfl, ?_⟩
     simp [g1, g3, g4, cntP]
   ·have hdi' : ¬ (d : Int) = i := by omega
    simp [joined_fl, hf2, g1, g3, g4, rd_def, hpc, hd', hN0, ← hN, hdi', hw]
    refine ⟨kk - 1, by omega, i + 1, by omega, hsub.trans hs2, fun c hc hc2 => ?_, by omega⟩
    by_cases e : c = i
    ·subst e; rw [hd] at hc2; exact absurd (Option.some.inj hc2) hdi
    ·exact hP c (by omega) hc2
  ·have hin : i = n := by omega
   subst hin
   simp [g1, g3, g4, rd_def, hb2, endK_ret]
   exact (plan_heads hG).2 (by rw [hGn]; exact hP)
 ·exact ⟨0, h1, by omega, rfl, Sub.refl _, fun c hc => by omega, by simp⟩
end Go.Proofs.Ytjlkndkedknocaa
namespace Go.Ai
attribute [local instance] Classical.propDecidable
theorem cntP_one {p : Nat → Prop} {n i : Nat} (hi : i < n) (hp : p i) (hu : ∀ j, j < n → p j → j = i) : cntP p n = 1 := by
 induction n with
 | zero => omega
 | succ n ih =>
  simp only [cntP]
  by_cases e : i = n
  ·subst e
   rw [if_pos hp, cntP_zero fun j hj hpj => by have := hu j (by omega) hpj; omega]
  ·have hn : ¬ p n := fun h => e (hu n (by omega) h).symm
   rw [if_neg hn, ih (by omega) fun j hj => hu j (by omega)]
theorem cntP_two {p : Nat → Prop} {n i j : Nat} (hij : i < j) (hj : j < n) (hi : p i) (hp : p j) : 2 ≤ cntP p n := by
 have h1 := cntP_pos hij hi
 have h2 := cntP_mono p (show j + 1 ≤ n by omega)
 simp only [cntP, if_pos hp] at h2
 omega
end Go.Ai
namespace Go.Proofs.Ytjlkndkedknocaa
open Go Go.Ai
attribute [local instance] Classical.propDecidable
noncomputable def useN (x : Nat → Nat → Int) (s : Nat → Int) (a : Nat) (b : Bool) (J : Nat) : Nat := cntP (fun k => use x s k = ((a : Int), b)) J
theorem snd_counts {n : Nat} {x : Nat → Nat → Int} {s : Nat → Int} {L : Int} (h1 : n ≤ 200) (h2 : 0 ≤ L ∧ L ≤ 200) (h3 : ∀ c, c < n → s c = 1 ∨ s c = -1) (h4 : ∀ j, j < 4 * n → 0 ≤ (use x s j).1 ∧ (use x s j).1 < 2 * n) :
  Snd n x s L ↔ ∀ a, a < 2 * n → useN x s a true (4 * n) = 1 ∧ useN x s a false (4 * n) = 1 := by
 constructor
 ·intro hS a ha
  have key : ∀ b, useN x s a b (4 * n) = 1 := fun b => by
   obtain ⟨j, hj, he⟩ := hS.onto ha b
   exact cntP_one hj he fun j' hj' he' => hS.inj hj' hj (he'.trans he.symm)
  exact ⟨key true, key false⟩
 ·intro hc
  refine ⟨h1, h2, h3, h4, fun j j' hjj hj' he => ?_⟩
  have hr := h4 j (by omega)
  have h5 := hc (use x s j).1.toNat (by omega)
  have key : 2 ≤ useN x s (use x s j).1.toNat (use x s j).2 (4 * n) := by
   refine cntP_two hjj hj' ?_ ?_
   ·exact Prod.ext (by show (use x s j).1 = _; omega) rfl
   ·rw [← he]; exact Prod.ext (by show (use x s j).1 = _; omega) rfl
  cases hb : (use x s j).2 with
  | true => rw [hb] at key; omega
  | false => rw [hb] at key; omega
theorem useN_le (x : Nat → Nat → Int) (s : Nat → Int) (a : Nat) (b : Bool) (J : Nat) : useN x s a b J ≤ J := cntP_le _ _
structure SI (n : Nat) (x : Nat → Nat → Int) (s : Nat → Int) (J : Nat) (bs es : List Int) : Prop where
 lb : bs.length = 2 * n
 le : es.length = 2 * n
 cb : ∀ a, a < 2 * n → nth bs a = useN x s a true J
 ce : ∀ a, a < 2 * n → nth es a = useN x s a false J
 rg : ∀ j, j < J → 0 ≤ (use x s j).1 ∧ (use x s j).1 < 2 * n
theorem SI.stepB {n J a : Nat} {x : Nat → Nat → Int} {s : Nat → Int} {bs es : List Int} (h : SI n x s J bs es) (ha : a < 2 * n) (hu : use x s J = ((a : Int), true)) : SI n x s (J + 1) (bs.set a (nth bs a + 1)) es := by
 refine ⟨by simp [h.lb], h.le, fun b hb => ?_, fun b hb => ?_, fun j hj => ?_⟩
 ·rw [nth_set (by rw [h.lb]; exact ha)]
  unfold useN
  simp only [cntP, hu]
  by_cases e : b = a
  ·subst e; rw [if_pos rfl, if_pos rfl, h.cb b hb]; rfl
  ·rw [if_neg e, if_neg (fun e' => e (by have := congrArg Prod.fst e'; simp at this; omega)), h.cb b hb]; rfl
 ·unfold useN
  simp only [cntP, hu]
  rw [if_neg (by simp), h.ce b hb]; rfl
 ·by_cases e : j = J
  ·subst e; rw [hu]; exact ⟨by simp only; omega, by simp only; omega⟩
  ·exact h.rg j (by omega)
theorem SI.stepE {n J a : Nat} {x : Nat → Nat → Int} {s : Nat → Int} {bs es : List Int} (h : SI n x s J bs es) (ha : a < 2 * n) (hu : use x s J = ((a : Int), false)) : SI n x s (J + 1) bs (es.set a (nth es a + 1)) := by
 refine ⟨h.lb, by simp [h.le], fun b hb => ?_, fun b hb => ?_, fun j hj => ?_⟩
 ·unfold useN
  simp only [cntP, hu]
  rw [if_neg (by simp), h.cb b hb]; rfl
 ·rw [nth_set (by rw [h.le]; exact ha)]
  unfold useN
  simp only [cntP, hu]
  by_cases e : b = a
  ·subst e; rw [if_pos rfl, if_pos rfl, h.ce b hb]; rfl
  ·rw [if_neg e, if_neg (fun e' => e (by have := congrArg Prod.fst e'; simp at this; omega)), h.ce b hb]; rfl
 ·by_cases e : j = J
  ·subst e; rw [hu]; exact ⟨by simp only; omega, by simp only; omega⟩
  ·exact h.rg j (by omega)
variable {E : Env} (hE : OE E)
include hE
theorem sound_ {h0 : List O} {a : Option Addr} {n c : Nat} {x : Nat → Nat → Int} {s : Nat → Int} {L : Int} (hx : CrossP h0 a n x s) :
  DR E 134 [dV a n c L] ⟨h0, h0.length⟩ (.ret (.bool (decide (Snd n x s L)))) ⟨h0, h0.length⟩ := by
 refine hE.fn (body := rb134) rfl ?_
 unfold rb134
 obtain ⟨hB, hhB⟩ : ∃ H, H = h0 ++ [O.cells [.slice a n c, .int .i64 L] 24 (some 0)] := ⟨_, rfl⟩
 have lB : hB.length = h0.length + 1 := by rw [hhB]; simp
 have sB : Sub h0 hB := by rw [hhB]; exact (Sub.refl _).app _
 have bB : hB[h0.length]? = some (O.cells [.slice a n c, .int .i64 L] 24 (some 0)) := by rw [hhB, app_at0]; rfl
 have hbad : ∀ h' f, h0.length ≤ f → ¬ Snd n x s L → pairQ (back ⟨h0, h0.length⟩ (.ret (.bool false)) ⟨h', f⟩) fun o2 st2 => o2 = .ret (.bool (decide (Snd n x s L))) ∧ st2 = ⟨h0, h0.length⟩ := fun h' f hf hm => by
  unfold pairQ
  rw [back_scalar (by simp [Out.scalar, scalar, flat1, flat]) hf]
  simp [hm]
 by_cases hn : 200 < n
 ·have hn' : (200 : Int) < n := by omega
  simp [dV, rd_at0, hn, hn']
  intro hS; have := hS.size; omega
 have hn' : ¬ (200 : Int) < n := by omega
 by_cases hL0 : L < 0
 ·simp [dV, rd_at0, hn, hn', hL0]
  intro hS; have := hS.loops; omega
 by_cases hL1 : 200 < L
 ·simp [dV, rd_at0, hn, hn', hL0, hL1]
  intro hS; have := hS.loops; omega
 have e0 : (0 : Int) ≤ 2 * n := by omega
 have e1 : 2 * (n : Int) * 8 ≤ 140737488355328 := by omega
 have e2 : 2 * (n : Int) < 4611686018427387904 := by omega
 have e3 : (2 * (n : Int)).toNat = 2 * n := by omega
 have hw0 : IntKind.i64.wrap (2 * (n : Int)) = 2 * n := by rw [w64_id] <;> omega
 simp [dV, rd_at0, hn, hn', hL0, hL1, e0, e1, e2, e3, hw0, List.append_assoc]
 obtain ⟨m, hm⟩ : ∃ m, m = h0.length + 1 := ⟨_, rfl⟩
 rw [← hm] at lB ⊢
 have hmin : min h0.length m = h0.length := by omega
 have hmin2 : min h0.length (m + 1) = h0.length := by omega
 refine DW_loop (fun kk fr st => ∃ (i : Nat) (h : List O) (bs es : List Int), i + kk = n ∧ st = ⟨h, h0.length⟩ ∧ Sub hB h ∧ AtB h m (.cells (intsC bs) 3 (some 0)) ∧ AtB h (m + 1) (.cells (intsC es) 3 (some 0)) ∧ SI n x s (4 * i) bs es ∧ (∀ c, c < i → s c = 1 ∨ s c = -1) ∧ get fr 1 = .pointer (some ⟨h0.length, 0, none⟩) ∧ get fr 3 = .int .i64 n ∧ get fr 4 = .slice (some ⟨m, 0, none⟩) (2 * n) (2 * n) ∧ get fr 5 = .slice (some ⟨m + 1, 0, none⟩) (2 * n) (2 * n) ∧ get fr 6 = .int .i64 i) ?_ (k := n) ?_
 ·rintro kk fr st ⟨i, h, bs, es, hik, rfl, hsub, hbB, heB, hI, hsg, g1, g3, g4, g5, g6⟩
  have hb2 := hsub _ _ bB
  by_cases hi : i < n
  ·obtain ⟨xb, xo, hxa, hxr⟩ := hx
   obtain rfl := hxa (by omega)
   obtain ⟨rq, rs⟩ := CrossP.reads hxr hi
   have hq4 := (sB.trans hsub).rd rs
   simp only [rd_def] at hq4
   by_cases hs1 : s i = 1 ∨ s i = -1
   ·have hcr := hxr i hi
    have huse : ∀ q, q < 4 → use x s (4 * i + q) = (x i q, outB (s i) q) := fun q hq => by
     unfold use
     rw [show (4 * i + q) / 4 = i by omega, show (4 * i + q) % 4 = q by omega]
    have hin := fun {q : Nat} (hq : q < 4) h => In_ hE (h := h) (x := x i) (s := s i) hs1 hq
    simp only [crossV] at hin
    have hs1c := hs1
    rcases hs1c with hp | hp
    all_goals
     simp [g1, g3, g4, g5, g6, hi, rd_def, hb2, hq4, hp]
     refine DW_loop (fun kk' fr st => ∃ (q : Nat) (h : List O) (bs es : List Int), q + kk' = 4 ∧ st = ⟨h, h0.length⟩ ∧ Sub hB h ∧ AtB h m (.cells (intsC bs) 3 (some 0)) ∧ AtB h (m + 1) (.cells (intsC es) 3 (some 0)) ∧ SI n x s (4 * i + q) bs es ∧ get fr 1 = .pointer (some ⟨h0.length, 0, none⟩) ∧ get fr 3 = .int .i64 n ∧ get fr 4 = .slice (some ⟨m, 0, none⟩) (2 * n) (2 * n) ∧ get fr 5 = .slice (some ⟨m + 1, 0, none⟩) (2 * n) (2 * n) ∧ get fr 6 = .int .i64 i ∧ get fr 7 = .int .i64 q) ?_ (k := 4) ?_
     ·clear g1 g3 g4 g5 g6 hI hbB heB hb2 hq4 hsub
      clear bs es h
      rintro kk' fr st ⟨q, h, bs, es, hqk, rfl, hsub, hbB, heB, hI, g1, g3, g4, g5, g6, g7⟩
      have hb2 := hsub _ _ bB
      have hbB' := hbB
      have heB' := heB
      unfold AtB at hbB' heB'
      by_cases hq : q < 4
      ·have hq' : (q : Int) < 4 := by omega
       have hwq : IntKind.i64.wrap ((q : Int) + 1) = (q : Int) + 1 := by rw [w64_id] <;> omega
       have hr := (sB.trans hsub).rd (rq q hq)
       have hc5 := (sB.trans hsub).rdN hcr
       simp only [rd_def] at hr
       rw [rdN_def] at hc5
       simp only [crossC] at hc5
       by_cases h1 : x i q < 0
       ·simp [g1, g3, g4, g5, g6, g7, hq', rd_def, hb2, hi, hr, h1, endK_ret]
        intro hS
        have := hS.range (4 * i + q) (by omega)
        rw [huse q hq] at this
        simp only at this
        omega
       by_cases h2 : 2 * (n : Int) ≤ x i q
       ·simp [g1, g3, g4, g5, g6, g7, hq', rd_def, hb2, hi, hr, h1, h2, hw0, endK_ret]
        intro hS
        have := hS.range (4 * i + q) (by omega)
        rw [huse q hq] at this
        simp only at this
        omega
       obtain ⟨e, he⟩ : ∃ e : Nat, x i q = e := ⟨(x i q).toNat, by omega⟩
       have hen : e < 2 * n := by omega
       have hen' : (e : Int) < 2 * n := by omega
       have hen2 : e + 1 ≤ 2 * n := by omega
       have h2' : ¬ 2 * (n : Int) ≤ e := by omega
       have h1' : ¬ (e : Int) < 0 := by omega
       have hu := huse q hq
       rw [he] at hu hr
       have hlb := hI.lb
       have hle := hI.le
       have heb : e < bs.length := by omega
       have hee : e < es.length := by omega
       have hcb := hI.cb e hen
       have hce := hI.ce e hen
       have hub := useN_le x s e true (4 * i + q)
       have hue := useN_le x s e false (4 * i + q)
       have hwb : IntKind.i64.wrap (nth bs e + 1) = nth bs e + 1 := by rw [w64_id] <;> omega
       have hwe : IntKind.i64.wrap (nth es e + 1) = nth es e + 1 := by rw [w64_id] <;> omega
       cases hob : outB (s i) q with
       | true =>
        rw [hob] at hu
        have hin' := fun h => hin hq h
        rw [hob] at hin'
        rw [hp] at hin' hc5
        simp [g1, g3, g4, g5, g6, g7, hq', rd_def, rdN_def, wrN_def, hb2, hi, hr, h1', h2', hw0, hc5, DC_q hin', hbB', heB', hen', intsC_get heb, intsC_get hee, hwb, hwe, hlb, hle, intsC_set, hen2, hwq, hmin, hmin2]
        refine ⟨kk' - 1, by omega, q + 1, by omega, hsub.set (by omega) _, _, set_self hbB', es, set_ne heB' (by omega), hI.stepB hen hu, by omega⟩
       | false =>
        rw [hob] at hu
        have hin' := fun h => hin hq h
        rw [hob] at hin'
        rw [hp] at hin' hc5
        simp [g1, g3, g4, g5, g6, g7, hq', rd_def, rdN_def, wrN_def, hb2, hi, hr, h1', h2', hw0, hc5, DC_q hin', hbB', heB', hen', intsC_get heb, intsC_get hee, hwb, hwe, hlb, hle, intsC_set, hen2, hwq, hmin, hmin2]
        refine ⟨kk' - 1, by omega, q + 1, by omega, hsub.set (by omega) _, bs, set_ne hbB' (by omega), _, set_self heB', hI.stepE hen hu, by omega⟩
      ·have hq4 : q = 4 := by omega
       subst hq4
       have hw : IntKind.i64.wrap ((i : Int) + 1) = (i : Int) + 1 := by rw [w64_id] <;> omega
       simp [g1, g3, g4, g5, g6, g7, hw]
       refine ⟨kk - 1, by omega, i + 1, by omega, hsub, bs, hbB, es, heB, by rw [Nat.mul_add]; exact hI, fun c hc => ?_, by omega⟩
       by_cases e : c = i
       ·rw [e]; exact hs1
       ·exact hsg c (by omega)
     ·refine ⟨0, h, bs, es, by omega, rfl, hsub, hbB, heB, hI, ?_⟩
      simp [g1, g3, g4, g5, g6]
   ·have hs1' : ¬ s i = 1 := fun h => hs1 (.inl h)
    have hs2' : ¬ s i = -1 := fun h => hs1 (.inr h)
    simp [g1, g3, g4, g5, g6, hi, rd_def, hb2, hq4, hs1', hs2', endK_ret]
    exact fun hS => hs1 (hS.sign i hi)
  ·have hin : i = n := by omega
   subst hin
   simp [g1, g3, g4, g5, g6, rd_def, hb2]
   have hbB' := hbB
   have heB' := heB
   unfold AtB at hbB' heB'
   have hcnt := snd_counts (L := L) (by omega) (by omega) hsg hI.rg
   have hlb := hI.lb
   have hle := hI.le
   refine DW_loop (fun kk fr st => ∃ (e : Nat), e + kk = 2 * i ∧ st = ⟨h, h0.length⟩ ∧ (∀ a, a < e → useN x s a true (4 * i) = 1 ∧ useN x s a false (4 * i) = 1) ∧ get fr 3 = .int .i64 i ∧ get fr 4 = .slice (some ⟨m, 0, none⟩) (2 * i) (2 * i) ∧ get fr 5 = .slice (some ⟨m + 1, 0, none⟩) (2 * i) (2 * i) ∧ get fr 9 = .int .i64 e) ?_ (k := 2 * i) ?_
   ·clear g1 g3 g4 g5 g6
    rintro kk fr st ⟨e, hek, rfl, hP, g3, g4, g5, g9⟩
    by_cases he : e < 2 * i
    ·have he' : (e : Int) < 2 * i := by omega
     have heb : e < bs.length := by omega
     have hee : e < es.length := by omega
     have hw : IntKind.i64.wrap ((e : Int) + 1) = (e : Int) + 1 := by rw [w64_id] <;> omega
     have hcb := hI.cb e he
     have hce := hI.ce e he
     by_cases h1 : nth bs e = 1
     ·by_cases h2 : nth es e = 1
      ·simp [g3, g4, g5, g9, he', hw0, rd_def, hbB', heB', intsC_get heb, intsC_get hee, h1, h2, hw]
       refine ⟨kk - 1, by omega, e + 1, by omega, fun a ha => ?_, by omega⟩
       by_cases e' : a = e
       ·rw [e']; omega
       ·exact hP a (by omega)
      ·simp [g3, g4, g5, g9, he', hw0, rd_def, hbB', heB', intsC_get heb, intsC_get hee, h1, h2, hw, endK_ret]
       intro hS
       have := (hcnt.1 hS e he).2
       omega
     ·simp [g3, g4, g5, g9, he', hw0, rd_def, hbB', heB', intsC_get heb, intsC_get hee, h1, hw, endK_ret]
      intro hS
      have := (hcnt.1 hS e he).1
      omega
    ·have he' : ¬ (e : Int) < 2 * i := by omega
     simp [g3, g4, g5, g9, he', hw0, endK_ret]
     exact hcnt.2 fun a ha => hP a (by omega)
   ·exact ⟨0, by omega, rfl, fun a ha => by omega, by simp [g3, g4, g5]⟩
 ·refine ⟨0, h0 ++ [O.cells [.slice a n c, .int .i64 L] 24 (some 0), O.cells (rep (2 * n) [.int .i64 0]) 3 (some 0), O.cells (rep (2 * n) [.int .i64 0]) 3 (some 0)], List.replicate (2 * n) 0, List.replicate (2 * n) 0, by omega, rfl, ?_, ?_, ?_, ⟨by simp, by simp, ?_, ?_, fun j hj => by omega⟩, fun c hc => by omega, ?_⟩
  ·rw [hhB]; exact Ext.sub ⟨[O.cells (rep (2 * n) [.int .i64 0]) 3 (some 0), O.cells (rep (2 * n) [.int .i64 0]) 3 (some 0)], by simp⟩
  ·unfold AtB
   rw [hm, app_at]; simp [rep, intsC]
  ·unfold AtB
   rw [hm, Nat.add_assoc, app_at]; simp [rep, intsC]
  ·intro a ha; simp [nth, useN, cntP, ha]
  ·intro a ha; simp [nth, useN, cntP, ha]
  ·simp [hm]
end Go.Proofs.Ytjlkndkedknocaa
namespace Go.Proofs.Ytjlkndkedknocaa
open Go Go.Ai
attribute [local instance] Classical.propDecidable
variable {E : Env} (hE : OE E)
include hE
theorem checkR_ {h0 : List O} {a : Option Addr} {n c : Nat} {x : Nat → Nat → Int} {s : Nat → Int} {L : Int} (hx : CrossP h0 a n x s) :
  DR E 58 [dV a n c L] ⟨h0, h0.length⟩ (.ret (.int .i64 (kindD n x s L))) ⟨h0, h0.length⟩ := by
 refine hE.fn (body := rb58) rfl ?_
 unfold rb58
 have hc : ∀ l, CrossP (h0 ++ l) a n x s := fun l => hx.ext (Ext.snoc h0 l)
 have h1 := fun h k => sound_ hE (h0 := h) (a := a) (x := x) (c := c) (L := L) (n := n) (s := s) k
 by_cases hS : Snd n x s L
 ·have h2 := fun h k => planar_ hE (h0 := h) (a := a) (x := x) (c := c) k hS
  by_cases hP : PlanG (dgOf n x s L)
  ·simp only [dV, decide_eq_true hS, decide_eq_true hP] at h1 h2
   simp [dV, rdN_at0, DC_when h1, DC_when h2, hc, joined_fl, kindD, hS, hP]
  ·simp only [dV, decide_eq_true hS, decide_eq_false hP] at h1 h2
   simp [dV, rdN_at0, DC_when h1, DC_when h2, hc, joined_fl, kindD, hS, hP]
 ·simp only [dV, decide_eq_false hS] at h1
  simp [dV, rdN_at0, DC_when h1, hc, joined_fl, kindD, hS]
end Go.Proofs.Ytjlkndkedknocaa
namespace Go.Proofs.Ytjlkndkedknocaa
open Go Go.Ai
attribute [local instance] Classical.propDecidable
variable {E : Env} (hE : OE E)
include hE
end Go.Proofs.Ytjlkndkedknocaa
namespace Go.Ai
theorem Sub.rdO {h h' : List O} (hs : Sub h h') {b i : Nat} {v : Value} (hr : rdO h[b]? i = some v) : rdO h'[b]? i = some v := by
 rw [← rd_def] at hr ⊢
 exact hs.rd hr
end Go.Ai
namespace Go.Proofs.Ytjlkndkedknocaa
open Go Go.Ai
attribute [local instance] Classical.propDecidable
def InvI (h : List O) (lo n : Nat) (A : List (List Int)) (i : Nat) (vs : List Value) : Prop :=
 ∀ q, q < i → ∃ b, vs[q]? = some (.slice (some ⟨b, 0, none⟩) n n) ∧ lo ≤ b ∧ h[b]? = some (.cells (intsC (invL (nthR A q))) 3 (some 0))
theorem InvI.mat {h : List O} {lo n i : Nat} {A : List (List Int)} {vs : List Value} {uv : Value} (hR : InvI h lo n A i vs) (hu : OwnS h lo uv i vs 34 1) (hi : A.length = i) (hrow : ∀ q, q < i → (nthR A q).length = n ∧ PermL n (nthR A q)) (hn : n ≤ 1000 ∧ i ≤ 1000) : Mat h uv (invA A) := by
 have hlA : (invA A).length = i := by rw [invA_length, hi]
 rcases hu.2 with ⟨h1, h2⟩ | ⟨b, su, h1, h2, h3, _⟩
 ·have : invA A = [] := List.length_eq_zero_iff.1 (by omega)
  rw [h1, this]
  exact ⟨none, 0, 0, 0, fun _ => undef, rfl, fun h => absurd h (by simp), fun i hi => absurd hi (by simp), by simp⟩
 ·refine ⟨some ⟨b, 0, none⟩, b, 0, i, fun q => (vs[q]?).getD undef, by rw [h1, hlA], fun _ => rfl, fun q hq => ?_, by omega⟩
  obtain ⟨b', r1, r2, r3⟩ := hR q (by omega)
  refine ⟨by rw [rd_def, h3]; simp [r1], ?_⟩
  rw [invA_at (by omega)]
  simp only [r1, Option.getD_some]
  obtain ⟨k1, k2⟩ := hrow q (by omega)
  have hinv := k2.inv
  refine ⟨some ⟨b', 0, none⟩, b', 0, n, by rw [hinv.len], fun _ => rfl, fun j hj => ?_, fun j => ?_, by rw [hinv.len]; omega⟩
  ·rw [rd_def, r3]
   simp only [rdO_cells, Nat.zero_add]
   exact intsC_get hj
  ·by_cases hj : j < (invL (nthR A q)).length
   ·have := hinv.rng j hj
    constructor <;> omega
   ·rw [nth_ge (by omega)]; constructor <;> omega
variable {E : Env} (hE : OE E)
include hE
theorem checkW_ {h0 : List O} {a : Option Addr} {n c : Nat} {x : Nat → Nat → Int} {s : Nat → Int} {L : Int} {vA : Value} {A : List (List Int)} (hx : CrossP h0 a n x s) (hA : Mat h0 vA A) (hroom : ∀ i, i < A.length → (nthR A i).length * 8 ≤ roomMax) :
  DR E 67 [dV a n c L, vA] ⟨h0, h0.length⟩ (.ret (.int .i64 (if kindD n x s L ≠ 0 then kindD n x s L else checkD (dgOf n x s L) A))) ⟨h0, h0.length⟩ := by
 refine hE.fn (body := rb67) rfl ?_
 unfold rb67
 have hx1 : CrossP (h0 ++ [O.cells [.slice a n c, .int .i64 L] 24 (some 0)]) a n x s := hx.ext (Ext.snoc _ _)
 have h1 := check_ hE (c := c) (L := L) hx1
 simp [dV] at h1
 by_cases hk : kindD n x s L = 0
 ·have h2 := newLinkC_ hE (c := c) hx1 hk
  simp [dV] at h2
  have hS := (kind_zero hk).1
  simp [dV, rdN_at0, joined_fl, DC_of h1, hk]
  refine h2.imp ?_
  rintro o ⟨h3, f3⟩ ⟨pl, rfl, hp, hf, hs, hl⟩
  simp only at hf hs hl
  have hs0 : Sub h0 h3 := ((Sub.refl h0).app _).trans hs
  simp [joined_fl, hf]
  refine (presentation_ hE hl hS).imp ?_
  rintro o ⟨h4, f4⟩ ⟨v, rfl, hs4, hf4, hM⟩
  simp only at hf4 hs4 hM
  have hM0 := hM.mat
  have hone : one1 v = true := by obtain ⟨va, vb, vo, vc, vvs, hv, hvr⟩ := hM0; rw [hv]; rfl
  have hl3 := hs.len
  simp at hl3
  have hl4 := hs4.len
  have hmin4 : min h0.length h4.length = h0.length := by omega
  obtain ⟨G, hGe⟩ : ∃ G, G = dgOf n x s L := ⟨_, rfl⟩
  have hG : GoodG G := by rw [hGe]; exact good_of hS
  have hGn : G.n = n := by rw [hGe]; rfl
  have hGL : G.L = L := by rw [hGe]; rfl
  rw [← hGe] at hM hM0 ⊢
  have hac := arC_le G
  have hsz := hG.size
  have hloops := hG.loops
  rw [hGL] at hloops
  obtain ⟨H, hH⟩ : ∃ H, H = h4 ++ [O.cells [.int .i64 (arC G + L), v] 81 (some 0)] := ⟨_, rfl⟩
  have hlH : H.length = h4.length + 1 := by rw [hH]; simp
  have hsH : Sub h4 H := by rw [hH]; exact (Sub.refl _).app _
  have hs0H : Sub h0 H := (hs0.trans hs4).trans hsH
  have q6 : H[h4.length]? = some (.cells [.int .i64 (arC G + L), v] 81 (some 0)) := by rw [hH, app_at0]; rfl
  obtain ⟨aa, ab, ao, ac, avs, rfl, ha, har⟩ := hA.at
  unfold checkD
  rw [hGL]
  have hq6' : ∀ l, (H ++ l)[h4.length]? = _ := fun l => app_of q6 l
  by_cases hg : (A.length : Int) = arC G + L
  ·have hg' : (arC G : Int) + L = (A.length : Int) := hg.symm
   rw [if_pos hg]
   rw [hg'] at hH q6 
   simp [joined_fl, hf4, wrN_at0, hone, set_at0, hmin4, hg', ← hH, rd_def, q6]
   have hsc : ∀ z : Int, (Out.ret (.int .i64 z)).scalar = true := fun _ => rfl
   have hA600 : A.length ≤ 600 := by omega
   have hrow0 := fun (hpos : 0 < A.length) => har 0 hpos
   refine DW_loop (fun kk fr st => ∃ (i : Nat) (h : List O) (uv : Value) (vs : List Value), i + kk = A.length ∧ st = ⟨h, h0.length⟩ ∧ Sub H h ∧ OwnS h H.length uv i vs 34 1 ∧ InvI h H.length (nthR A 0).length A i vs ∧ (∀ q, q < i → (nthR A q).length = (nthR A 0).length ∧ PermB (nthR A q)) ∧
    get fr 1 = .slice aa A.length ac ∧ get fr 6 = .pointer (some ⟨h4.length, 0, none⟩) ∧ get fr 7 = uv ∧ get fr 25 = .slice aa A.length ac ∧ get fr 26 = .int .i64 A.length ∧ get fr 27 = .int .i64 i) ?_ (k := A.length) ?_
   ·rintro kk fr st ⟨i, h, uv, vs, hik, rfl, hsub, hu, hR, hok, g1, g6, g7, g25, g26, g27⟩
    have hs0h : Sub h0 h := hs0H.trans hsub
    have hhl := hsub.len
    by_cases hi : i < A.length
    ·have hw : IntKind.i64.wrap ((i : Int) + 1) = (i : Int) + 1 := by rw [w64_id] <;> omega
     obtain rfl := ha (by omega)
     obtain ⟨r1, r2⟩ := har i hi
     obtain ⟨r3, r4⟩ := har 0 (by omega)
     have r1' := hs0h.rdO r1
     have r3' := hs0h.rdO r3
     simp only [Nat.add_zero] at r3'
     have r2' := r2.sub hs0h
     have hpi := isPerm_ hE r2' (hroom i hi)
     obtain ⟨ra, rb, ro, rc, hrv, _, _⟩ := r2.at
     obtain ⟨sa, sb, so, sc, hsv, _, _⟩ := r4.at
     rw [hrv] at r1' hpi
     rw [hsv] at r3'
     have hpos : 0 < A.length := by omega
     by_cases hlen : (nthR A i).length = (nthR A 0).length
     ·rw [hlen] at hpi
      by_cases hP : PermB (nthR A i)
      ·have hrng : InN (nthR A i).length (nthR A i) := hP.1.rng
       have hinv := inverse_ hE r2' hrng (by have := hP.2.2; omega)
       rw [hrv, hlen] at hinv
       obtain ⟨H2, hH2⟩ : ∃ H2, H2 = h ++ [O.cells (intsC (invL (nthR A i))) 3 (some 0)] := ⟨_, rfl⟩
       have hl2 : H2.length = h.length + 1 := by rw [hH2]; simp
       have hE2 : Ext h H2 := by rw [hH2]; exact Ext.snoc _ _
       have hin : H2[h.length]? = some (O.cells (intsC (invL (nthR A i))) 3 (some 0)) := by rw [hH2, app_at0]; rfl
       have hu2 : OwnS (H2 ++ [.cells [.slice (some ⟨h.length, 0, none⟩) (nthR A i).length (nthR A i).length] 34 (some 0)]) H.length uv i vs 34 1 := hu.ext (hE2.trans (Ext.snoc _ _))
       have hread : readSlice (H2 ++ [.cells [.slice (some ⟨h.length, 0, none⟩) (nthR A i).length (nthR A i).length] 34 (some 0)]) 1 1 (some ⟨H2.length, 0, none⟩) = some [.slice (some ⟨h.length, 0, none⟩) (nthR A i).length (nthR A i).length] := by simp [readSlice, rdN_at0]
       obtain ⟨b', H4, f4, happ, hb', hown, hf1, hf2, hL4, K4⟩ := append_S (fl := h0.length) (c := 1) (bytes := 24) hu2 hread (by simp) (by simp) (by simp; omega) (by simp only [roomMax]; omega) (by omega)
       obtain rfl : f4 = h0.length := by omega
       have hnei : ∀ (b : Nat) (cs : List Value) (ow : Option Nat), H2[b]? = some (.cells cs 3 ow) → ∀ n' c', uv ≠ .slice (some ⟨b, 0, none⟩) n' c' := fun b cs ow hb n' c' e => by
        rcases hu.2 with ⟨h1, _⟩ | ⟨b2, s2, h1, h2, h3, _⟩
        ·rw [e] at h1; cases h1
        ·rw [e] at h1
         simp only [Value.slice.injEq, Option.some.injEq, Addr.mk.injEq] at h1
         obtain ⟨l, hl⟩ := hE2
         rw [h1.1.1, hl, app_of h3] at hb
         cases hb
       have hneH : ∀ (b : Nat), b < H.length → ∀ n' c', uv ≠ .slice (some ⟨b, 0, none⟩) n' c' := fun b hb n' c' e => by
        rcases hu.2 with ⟨h1, _⟩ | ⟨b2, s2, h1, h2, h3, _⟩
        ·rw [e] at h1; cases h1
        ·rw [e] at h1
         simp only [Value.slice.injEq, Option.some.injEq, Addr.mk.injEq] at h1
         omega
       have happ2 := happ
       rw [hl2] at happ2
       simp only [hlen, hH2, List.append_assoc, List.cons_append, List.nil_append] at happ2
       simp [g1, g6, g7, g25, g26, g27, hi, rd_def, r1', r3', hpos, hlen, DC_of hpi, hP, DC_of hinv, List.append_assoc, happ2, hw]
       have hrowlen : ∀ q, q < i + 1 → (nthR A q).length = (nthR A 0).length ∧ PermB (nthR A q) := fun q hq => by
        by_cases e : q = i
        ·rw [e]; exact ⟨hlen, hP⟩
        ·exact hok q (by omega)
       rw [hlen] at hown
       refine ⟨kk - 1, by omega, i + 1, by omega, fun b o hb => ?_, _, vs ++ [.slice (some ⟨h.length, 0, none⟩) (nthR A 0).length (nthR A 0).length], hown, fun q hq => ?_, hrowlen, rfl, by omega⟩
       ·have := (List.getElem?_eq_some_iff.1 hb).1
        obtain ⟨l, hl⟩ := hE2
        exact K4 b o (by rw [hl, List.append_assoc]; exact app_of (hsub b o hb) _) (hneH b this)
       ·have hvl : vs.length = i := by have := hu.1; omega
        by_cases e : q < i
        ·obtain ⟨b, q1, q2, q3⟩ := hR q e
         have hq3 : H2[b]? = some (O.cells (intsC (invL (nthR A q))) 3 (some 0)) := by rw [hH2]; exact app_of q3 _
         exact ⟨b, by rw [List.getElem?_append_left (by omega)]; exact q1, q2, K4 b _ (app_of hq3 _) (hnei b _ _ hq3)⟩
        ·have hqi : q = i := by omega
         subst hqi
         exact ⟨h.length, by rw [List.getElem?_append_right (by omega), hvl]; simp, by omega, K4 _ _ (app_of hin _) (hnei _ _ _ hin)⟩
      ·have hno : ¬ PermsA A := fun h => hP (h i hi).2
       simp [g1, g6, g7, g25, g26, g27, hi, rd_def, r1', r3', hpos, hlen, DC_of hpi, hP, hno, endK_ret, back_scalar, hsc]
     ·have hno : ¬ PermsA A := fun h => hlen (h i hi).1
      simp [g1, g6, g7, g25, g26, g27, hi, rd_def, r1', r3', hpos, hlen, hno, endK_ret, back_scalar, hsc]
    ·have hin : i = A.length := by omega
     subst hin
     have hP : PermsA A := hok
     have hmA := hA.sub hs0h
     have hmB := InvI.mat hR hu rfl (fun q hq => ⟨(hok q hq).1, by rw [← (hok q hq).1]; exact (hok q hq).2.1⟩) ⟨by
      rcases Nat.eq_zero_or_pos A.length with h | h
      ·have : A = [] := List.length_eq_zero_iff.1 h
       rw [this]; simp [nthR]
      ·have := (hok 0 h).2.2.2; omega, by omega⟩
     have q6h := hsub _ _ q6
     have hmv := hM0.sub (hsH.trans hsub)
     obtain ⟨va, vb, vo, vc, vvs, rfl, hva, hvr⟩ := hmv.at
     rw [relL_length, hGn] at hva hvr q6h
     obtain ⟨ba, bb, bo, bc, bvs, hbv, _, _⟩ := hmB.at
     rw [if_pos hP]
     have hs0m := fun (hpos : 0 < A.length) => hs0h.rdO (har 0 hpos).1
     simp [g1, g6, g7, g25, g26, g27, rd_def, q6h]
     refine DW_loop (fun kk fr st => ∃ (m : Nat), m + kk = n ∧ st = ⟨h, h0.length⟩ ∧ (∀ q, q < m → TrivL A (invA A) (relOf G q) (nthR A 0).length) ∧
      get fr 1 = .slice aa A.length ac ∧ get fr 7 = uv ∧ get fr 50 = .slice va n vc ∧ get fr 51 = .int .i64 n ∧ get fr 52 = .int .i64 m) ?_ (k := n) ?_
     ·clear g1 g6 g7 g25 g26 g27
      rintro kk fr st ⟨m, hmk, rfl, htr, g1, g7, g50, g51, g52⟩
      by_cases hm : m < n
      ·have hw : IntKind.i64.wrap ((m : Int) + 1) = (m : Int) + 1 := by rw [w64_id] <;> omega
       obtain rfl := hva (by omega)
       obtain ⟨p1, p2⟩ := hvr m hm
       rw [relL_nth (by rw [hGn]; exact hm)] at p2
       have hgp := arN_lt (hG.X m 0 (by rw [hGn]; exact hm) (by omega))
       have hpos : 0 < A.length := by omega
       obtain rfl := ha hpos
       have r3' := hs0m hpos
       simp only [Nat.add_zero] at r3'
       obtain ⟨sa, sb, so, sc, hsv, _, _⟩ := ((har 0 hpos).2).at
       rw [hsv] at r3'
       have hn200 := (hok 0 hpos).2.2.2
       have htv := isTrivial_ hE hmA hmB p2 hP.rows hP.inv (invA_length A) (relOf_let hG (by rw [hGn]; exact hm) (by omega)) ⟨by omega, by omega⟩
       by_cases ht : TrivL A (invA A) (relOf G m) (nthR A 0).length
       ·simp [g1, g7, g50, g51, g52, hm, rd_def, p1, hpos, r3', DC_of htv, ht, hw]
        refine ⟨kk - 1, by omega, m + 1, by omega, fun q hq => ?_, by omega⟩
        by_cases e : q = m
        ·rw [e]; exact ht
        ·exact htr q (by omega)
       ·have hno : ¬ HomA G A := fun hh => ht (hh m (by rw [hGn]; exact hm))
        simp [g1, g7, g50, g51, g52, hm, rd_def, p1, hpos, r3', DC_of htv, ht, hno, endK_ret, back_scalar, hsc]
      ·have hmn : m = n := by omega
       subst hmn
       have hyes : HomA G A := fun q hq => htr q (by rw [hGn] at hq; exact hq)
       simp [g1, g7, g50, g51, g52, hyes, endK_ret, back_scalar, hsc]
     ·exact ⟨0, by omega, rfl, fun q h => by omega, by simp [g1, g7]⟩
   ·exact ⟨0, H, .slice none 0 0, [], by omega, rfl, Sub.refl _, OwnS.nil _ _ _ _, fun q hq => by omega, fun q hq => by omega, by simp⟩
  ·rw [if_neg hg]
   simp [joined_fl, hf4, wrN_at0, hone, set_at0, hmin4, ← hH, rd_def, q6, hg, endK_ret, back_scalar, Out.scalar, scalar, flat1, flat]
 ·simp [dV, rdN_at0, joined_fl, DC_of h1, hk, endK_ret, back_scalar, Out.scalar, scalar, flat1, flat]
end Go.Proofs.Ytjlkndkedknocaa
namespace Go.Ai
theorem PartI.sub {h h' : List O} {v : Value} (k : PartI h v) (e : Sub h h') : PartI h' v := by
 obtain ⟨a, n, c, h1, h2, h3⟩ := k
 refine ⟨a, n, c, h1, h2, fun b o ha => ?_⟩
 have ht := h3 b o ha
 unfold tagOk at ht ⊢
 cases hb : h[b]? with
 | none => rw [hb] at ht; simp at ht
 | some y => rw [e _ _ hb]; rw [hb] at ht; exact ht
def MatP (h : List O) (v : Value) (A : List (List Int)) : Prop :=
 ∃ a b o c, ∃ vs : Nat → Value, v = .slice a A.length c ∧ (0 < A.length → a = some ⟨b, o, none⟩) ∧ (∀ i, i < A.length → rdO h[b]? (o + i) = some (vs i) ∧ Ints h (vs i) (nthR A i) ∧ PartI h (vs i)) ∧ A.length < 2 ^ 62
theorem MatP.mat {h : List O} {v : Value} {A : List (List Int)} (k : MatP h v A) : Mat h v A := by
 obtain ⟨a, b, o, c, vs, h1, h2, h3, h4⟩ := k
 exact ⟨a, b, o, c, vs, h1, h2, fun i hi => ⟨by rw [rd_def]; exact (h3 i hi).1, (h3 i hi).2.1⟩, h4⟩
theorem MatP.sub {h h' : List O} {v : Value} {A : List (List Int)} (k : MatP h v A) (e : Sub h h') : MatP h' v A := by
 obtain ⟨a, b, o, c, vs, h1, h2, h3, h4⟩ := k
 exact ⟨a, b, o, c, vs, h1, h2, fun i hi => ⟨Sub.rdO e (h3 i hi).1, (h3 i hi).2.1.sub e, (h3 i hi).2.2.sub e⟩, h4⟩
end Go.Ai
namespace Go.Proofs.Ytjlkndkedknocaa
open Go Go.Ai
attribute [local instance] Classical.propDecidable
variable {E : Env} (hE : OE E)
include hE
end Go.Proofs.Ytjlkndkedknocaa
namespace Go.Proofs.Ytjlkndkedknocaa
open Go Go.Ai
attribute [local instance] Classical.propDecidable
structure LqI (h : List O) (lo : Nat) (ov : Value) (ws : List Int) : Prop where
 own : OwnT h lo ov ws.length (intsC ws) 3 1
 small : SmallL ws
 lo_ : lo ≤ h.length
theorem LqI.app {h : List O} {lo : Nat} {ov : Value} {ws : List Int} (hI : LqI h lo ov ws) (l : List O) : LqI (h ++ l) lo ov ws :=
 ⟨hI.own.keep fun b s _ _ e => app_of e _, hI.small, by have := hI.lo_; simp; omega⟩
theorem LqI.add {h : List O} {lo fl : Nat} {m : Int} {ov : Value} {ws : List Int} (hI : LqI h lo ov ws) (hm : -1000 ≤ m ∧ m ≤ 1000) (hfl : fl ≤ lo) (hw : ws.length ≤ 10000) :
  ∃ b' H4, appendV 3 1 8 ov (.slice (some ⟨h.length, 0, none⟩) 1 1) ⟨h ++ [.cells [.int .i64 m] 3 (some 0)], fl⟩ = some (.slice (some ⟨b', 0, none⟩) (ws.length + 1) (ws.length + 1), ⟨H4, fl⟩) ∧
   (∀ (b : Nat) (o : O), (b < lo ∨ ∀ (cs : List Value) (s : Option Nat), o ≠ .cells cs 3 s) → h[b]? = some o → H4[b]? = some o) ∧ LqI H4 lo (.slice (some ⟨b', 0, none⟩) (ws.length + 1) (ws.length + 1)) (ws ++ [m]) := by
 have hread : readSlice (h ++ [.cells [.int .i64 m] 3 (some 0)]) 1 1 (some ⟨h.length, 0, none⟩) = some [.int .i64 m] := by simp [readSlice, rdN_at0]
 have hlo := hI.lo_
 obtain ⟨b', H4, f4, happ, hb', hown, hf1, hf2, hL4, K4⟩ := append_T (fl := fl) (c := 1) (bytes := 8) (hI.own.keep (h' := h ++ [.cells [.int .i64 m] 3 (some 0)]) fun b s _ _ e => app_of e _) hread (by simp) (by simp) (by simp; omega) (by simp only [roomMax]; omega) (by omega)
 obtain rfl : f4 = fl := by omega
 refine ⟨b', H4, happ, fun b o hb ho => K4 _ _ (app_of ho _) hb, ?_, hI.small.app (fun y hy => by simp at hy; rw [hy]; exact hm), by simp at hL4; omega⟩
 simpa [intsC] using hown
end Go.Proofs.Ytjlkndkedknocaa
namespace Go.Proofs.Ytjlkndkedknocaa
open Go Go.Ai
attribute [local instance] Classical.propDecidable
def LonR (h0 : List O) (ws : List Int) (o : Out) (st' : St) : Prop := ∃ v, o = .ret (.tuple #[v, .int .i64 0]) ∧ LonP h0 ws v st'
variable {E : Env} (hE : OE E)
include hE
end Go.Proofs.Ytjlkndkedknocaa
namespace Go.Proofs.Ytjlkndkedknocaa
open Go Go.Ai
attribute [local instance] Classical.propDecidable
noncomputable def lonE (n : Nat) (x : Nat → Nat → Int) (s : Nat → Int) (L k : Int) : Int := if kindD n x s L ≠ 0 then kindD n x s L else if 0 ≤ k ∧ k < cpK (dgOf n x s L) + L then 0 else 1
noncomputable def lonW (n : Nat) (x : Nat → Nat → Int) (s : Nat → Int) (L k : Int) : List Int := if kindD n x s L ≠ 0 then [] else if 0 ≤ k ∧ k < cpK (dgOf n x s L) + L then lonD (dgOf n x s L) k else []
noncomputable def merW (n : Nat) (x : Nat → Nat → Int) (s : Nat → Int) (L k : Int) : Int := if kindD n x s L ≠ 0 then 0 else if 0 ≤ k ∧ k < cpK (dgOf n x s L) + L then merD (dgOf n x s L) k else 0
def LonU (h0 : List O) (ws : List Int) (e : Int) (o : Out) (st' : St) : Prop := ∃ v, o = .ret (.tuple #[v, .int .i64 e]) ∧ Sub h0 st'.h ∧ h0.length ≤ st'.fl ∧ Ints st'.h v ws
theorem ints_nil (h : List O) : Ints h (.slice none 0 0) [] := ⟨none, 0, 0, 0, rfl, fun h => absurd h (by simp), fun i hi => absurd hi (by simp), fun i => by rw [nth_ge (by simp)]; decide, by simp⟩
variable {E : Env} (hE : OE E)
include hE
theorem meridianU_ {h0 : List O} {a : Option Addr} {n c : Nat} {x : Nat → Nat → Int} {s : Nat → Int} {L : Int} (hx : CrossP h0 a n x s) (k : Int) :
  DR E 69 [dV a n c L, .int .i64 k] ⟨h0, h0.length⟩ (.ret (.tuple #[.int .i64 (merW n x s L k), .int .i64 (lonE n x s L k)])) ⟨h0, h0.length⟩ := by
 have h := meridian_ hE (c := c) (L := L) hx k
 unfold merW lonE
 by_cases hk : kindD n x s L ≠ 0
 ·simpa only [if_pos hk] using h
 ·simp only [if_neg hk] at h ⊢
  by_cases hi : 0 ≤ k ∧ k < cpK (dgOf n x s L) + L
  ·simpa only [if_pos hi] using h
  ·simpa only [if_neg hi] using h
theorem longitudeU_ (hWk : ∀ (h : List O) (pl n : Nat) (x : Nat → Nat → Int) (s : Nat → Int) (L i : Int), LnkP h pl n x s L → Snd n x s L → DR E 148 [.pointer (some ⟨pl, 0, none⟩), .int .i64 i] ⟨h, h.length⟩ (.ret (walkV h)) ⟨walkM h pl i (dgOf n x s L), h.length⟩)
  {h0 : List O} {a : Option Addr} {n c : Nat} {x : Nat → Nat → Int} {s : Nat → Int} {L : Int} (hx : CrossP h0 a n x s) (k : Int) :
  DC E 70 [dV a n c L, .int .i64 k] ⟨h0, h0.length⟩ (LonU h0 (lonW n x s L k) (lonE n x s L k)) := by
 refine (longitude_ hE hWk (c := c) (L := L) hx k).imp fun o st' hq => ?_
 unfold LonU lonW lonE
 rcases hq with ⟨h1, rfl, rfl⟩ | ⟨h1, h2, rfl, rfl⟩ | ⟨h1, h2, v, rfl, z1, z2, z3⟩
 ·simp only [if_pos h1]
  exact ⟨_, rfl, Sub.refl _, Nat.le_refl _, ints_nil _⟩
 ·simp only [ne_eq, h1, not_true_eq_false, if_false, if_neg h2]
  exact ⟨_, rfl, Sub.refl _, Nat.le_refl _, ints_nil _⟩
 ·simp only [ne_eq, h1, not_true_eq_false, if_false, if_pos h2]
  exact ⟨_, rfl, z1, z2, z3⟩
end Go.Proofs.Ytjlkndkedknocaa
namespace Go.Ai
end Go.Ai
namespace Go.Ai
variable {E : Env}
@[simp] theorem quietOp_strIdx {a b} : quietOp (.strIdx a b) = true := rfl
@[simp] theorem DL_strIdx {a b} {dst : Option Nat} {anc : Nat} {os : List ROper} {fr st} {Q : Post} : DL E (⟨dst, none, .strIdx a b, anc⟩ :: os) fr st Q ↔ resQ (step (.strIdx a b) (ev fr) st) (stepK E dst os fr Q) := (DL_step' rfl).trans stepW_res
@[simp] theorem quietOp_strSl {a b c} : quietOp (.strSl a b c) = true := rfl
@[simp] theorem DL_strSl {a b c} {dst : Option Nat} {anc : Nat} {os : List ROper} {fr st} {Q : Post} : DL E (⟨dst, none, .strSl a b c, anc⟩ :: os) fr st Q ↔ resQ (step (.strSl a b c) (ev fr) st) (stepK E dst os fr Q) := (DL_step' rfl).trans stepW_res
@[simp] theorem DD_strSl {a b c} {i : Nat} {acc : List (Nat × FP)} {dst : Option Nat} {anc : Nat} {os : List ROper} {fr st} {Q : Post} : DD E i acc (⟨dst, none, .strSl a b c, anc⟩ :: os) fr st Q ↔ resQ (step (.strSl a b c) (ev fr) st) (stepKD E i acc ⟨dst, none, .strSl a b c, anc⟩ os fr st Q) := (DD_step' rfl).trans stepW_res
@[simp] theorem quietOp_strOf {a} : quietOp (.strOf a) = true := rfl
@[simp] theorem DL_strOf {a} {dst : Option Nat} {anc : Nat} {os : List ROper} {fr st} {Q : Post} : DL E (⟨dst, none, .strOf a, anc⟩ :: os) fr st Q ↔ resQ (step (.strOf a) (ev fr) st) (stepK E dst os fr Q) := (DL_step' rfl).trans stepW_res
variable {e : Operand → Value} {st : St}
@[simp] theorem step_strIdx {x i} : step (.strIdx x i) e st = valS (strIdxV (e x) (e i)) st := rfl
@[simp] theorem step_strSl {x lo hi} : step (.strSl x lo hi) e st = valS (strSlV (e x) (lo.map e) (hi.map e)) st := rfl
@[simp] theorem step_strOf {x} : step (.strOf x) e st = valS (strOfV st.h (e x)) st := rfl
@[simp] theorem fpOf_strIdx {a b} : fpOf (.strIdx a b) e st = {} := rfl
@[simp] theorem fpOf_strSl {a b c} : fpOf (.strSl a b c) e st = {} := rfl
@[simp] theorem fpOf_strOf {a} : fpOf (.strOf a) e st = { r := blk (e a) } := rfl
@[simp] theorem blk_str {s} : blk (.string s) = [] := rfl
@[simp] theorem binV_strEq {a b} : binV .eql (.string a) (.string b) = some (.bool (a.toList == b.toList)) := rfl
@[simp] theorem binV_strNe {a b} : binV .neq (.string a) (.string b) = some (.bool (!(a.toList == b.toList))) := rfl
@[simp] theorem lenV_str {h s} : lenV h 1 (.string s) = some (.int .i64 s.size) := rfl
def tkB (T s : ByteArray) (pos : Nat) : Bool := decide (pos + s.size ≤ T.size) && ((T.extract pos (pos + s.size)).toList == s.toList)
theorem strSl_at {T : ByteArray} {a b : Nat} (h : a ≤ b) (hb : b ≤ T.size) : strSlV (.string T) (some (.int .i64 a)) (some (.int .i64 b)) = some (.string (T.extract a b)) := by
 have h1 : (a : Int) ≤ b := by omega
 have h2 : (b : Int) ≤ T.size := by omega
 simp [strSlV, hiB, loB, bound, h, hb]
end Go.Ai
namespace Go.Proofs.Ytjlkndkedknocaa
open Go Go.Ai
attribute [local instance] Classical.propDecidable
variable {E : Env} (hE : OE E)
include hE
theorem take_ {h : List O} {r pos : Nat} {T s : ByteArray} {ok : Bool} (hr : h[r]? = some (.cells [.string T, .int .i64 pos, .bool ok] 223 (some 0))) (hT : T.size ≤ 200000) (hs : s.size ≤ 100) (hp : pos ≤ T.size) :
  DR E 182 [.pointer (some ⟨r, 0, none⟩), .string s] ⟨h, h.length⟩ (.ret (.bool (tkB T s pos))) (if tkB T s pos = true then ⟨h.set r (.cells [.string T, .int .i64 ((pos + s.size : Nat) : Int), .bool ok] 223 (some 0)), r⟩ else ⟨h, h.length⟩) := by
 refine hE.fn (body := rb182) rfl ?_
 unfold rb182
 have hw : IntKind.i64.wrap ((pos : Int) + (s.size : Int)) = ((pos + s.size : Nat) : Int) := by rw [w64_id] <;> omega
 have lr := (List.getElem?_eq_some_iff.1 hr).1
 by_cases h1 : pos + s.size ≤ T.size
 ·have h1' : ((pos + s.size : Nat) : Int) ≤ (T.size : Int) := by omega
  have hsl := strSl_at (T := T) (a := pos) (b := pos + s.size) (by omega) h1
  by_cases h2 : (T.extract pos (pos + s.size)).toList == s.toList
  ·have hb : tkB T s pos = true := by unfold tkB; simp [h1, h2]
   rw [hb]
   have hw' := hw
   push_cast at hw' h1' hsl
   simp [rd_def, hr, hw', h1', hsl, h2, wrN_def, endK_ret, back]
   rw [if_neg (by omega), show min h.length r = r by omega]
   exact ⟨rfl, rfl⟩
  ·have hb : tkB T s pos = false := by unfold tkB; simp [h2]
   rw [hb]
   have hw' := hw
   push_cast at hw' h1' hsl
   simp [rd_def, hr, hw', h1', hsl, h2, endK_ret, back]
 ·have h1' : ¬ ((pos + s.size : Nat) : Int) ≤ (T.size : Int) := by omega
  have hb : tkB T s pos = false := by unfold tkB; simp [h1]
  rw [hb]
  have hw' := hw
  push_cast at hw' h1'
  simp [rd_def, hr, hw', h1', endK_ret, back]
theorem decimal_ {h : List O} {n : Nat} {S : ByteArray} (hn : n < 10) (hS : ByteArray.empty.push (UInt8.ofNat (48 + (n : Int)).toNat) = S) : DR E 227 [.int .i64 n] ⟨h, h.length⟩ (.ret (.string S)) ⟨h, h.length⟩ := by
 refine hE.fn (body := rb227) rfl ?_
 unfold rb227
 have h1 : (n : Int) < 10 := by omega
 have hw : IntKind.i64.wrap (48 + (n : Int)) = 48 + (n : Int) := by rw [w64_id] <;> omega
 have hw8 : IntKind.u8.wrap (48 + (n : Int)) = 48 + (n : Int) := by
  match n, hn with
  | 0, _ => rfl
  | 1, _ => rfl
  | 2, _ => rfl
  | 3, _ => rfl
  | 4, _ => rfl
  | 5, _ => rfl
  | 6, _ => rfl
  | 7, _ => rfl
  | 8, _ => rfl
  | 9, _ => rfl
 have hsc : (Out.ret (Value.string S)).scalar = true := rfl
 simp [h1, hw, hw8, strOfV, byteS, hS, endK_ret, back, hsc]
theorem number_ {h : List O} {r pos n : Nat} {T S : ByteArray} {ok : Bool} (hr : h[r]? = some (.cells [.string T, .int .i64 pos, .bool ok] 223 (some 0))) (hT : T.size ≤ 200000) (hp : pos < T.size) (hn : n < 10)
  (hd : strIdxV (.string T) (.int .i64 pos) = some (.int .u8 ((48 + n : Nat) : Int))) (he : pos + 1 < T.size → ∃ c : Int, strIdxV (.string T) (.int .i64 ((pos : Int) + 1)) = some (.int .u8 c) ∧ (c < 48 ∨ 57 < c))
  (hS : ByteArray.empty.push (UInt8.ofNat (48 + (n : Int)).toNat) = S) (hx : S.toList == (T.extract pos (pos + 1)).toList) :
  DR E 183 [.pointer (some ⟨r, 0, none⟩)] ⟨h, h.length⟩ (.ret (.int .i64 n)) ⟨h.set r (.cells [.string T, .int .i64 ((pos : Int) + 1), .bool ok] 223 (some 0)), r⟩ := by
 refine hE.fn (body := rb183) rfl ?_
 unfold rb183
 have lr := (List.getElem?_eq_some_iff.1 hr).1
 have hw00 : IntKind.i64.wrap 0 = 0 := rfl
 have hw1 : IntKind.i64.wrap ((pos : Int) + 1) = (pos : Int) + 1 := by rw [w64_id] <;> omega
 have hw2 : IntKind.i64.wrap (48 + (n : Int)) = 48 + (n : Int) := by rw [w64_id] <;> omega
 have hw3 : IntKind.i64.wrap (48 + (n : Int) - 48) = (n : Int) := by rw [w64_id] <;> omega
 have hw5 : IntKind.i64.wrap ((pos : Int) + 1 - pos) = 1 := by rw [w64_id] <;> omega
 push_cast at hd
 have c1 : (48 : Int) ≤ 48 + n := by omega
 have c2 : 48 + (n : Int) ≤ 57 := by omega
 obtain ⟨h1, hh1⟩ : ∃ h1, h1 = h.set r (.cells [.string T, .int .i64 ((pos : Int) + 1), .bool ok] 223 (some 0)) := ⟨_, rfl⟩
 have hr1 : h1[r]? = some (.cells [.string T, .int .i64 ((pos : Int) + 1), .bool ok] 223 (some 0)) := by rw [hh1]; exact set_self hr
 have hmr : min h.length r = r := by omega
 rw [← hh1]
 simp [rd_def, hr]
 refine DW_loop (fun kk fr st => get fr 0 = .pointer (some ⟨r, 0, none⟩) ∧ get fr 3 = .int .i64 pos ∧ ((kk = 1 ∧ st = ⟨h, h.length⟩ ∧ get fr 4 = .int .i64 0) ∨ (kk = 0 ∧ st = ⟨h1, r⟩ ∧ get fr 4 = .int .i64 n))) ?_ (k := 1) ?_
 ·rintro kk fr st ⟨g0, g3, ⟨rfl, rfl, g4⟩ | ⟨rfl, rfl, g4⟩⟩
  ·simp [g0, g3, g4, rd_def, hr, hp, hd, hw00, hw1, hw2, hw3, c1, c2, wrN_def, ← hh1, hmr]
  ·have hdec := decimal_ hE (h := h1) hn hS
   have l1 : h1.length = h.length := by rw [hh1]; simp
   have hsl := strSl_at (T := T) (a := pos) (b := pos + 1) (by omega) (by omega)
   push_cast at hsl
   have hn1000 : ¬ (1000 < (n : Int)) := by omega
   have hne : ¬ ((pos : Int) + 1 = pos) := by omega
   have hjo : joined ⟨h1, r⟩ ⟨h1, h1.length⟩ = ⟨h1, r⟩ := joined_fl (Nat.le_refl _)
   have hsc : (Out.ret (Value.int .i64 (n : Int))).scalar = true := rfl
   have hnr : ¬ h.length ≤ r := by omega
   by_cases hl : pos + 1 < T.size
   ·obtain ⟨c, e1, e2⟩ := he hl
    have hl' : (pos : Int) + 1 < (T.size : Int) := by omega
    by_cases e3 : 48 ≤ c
    ·have e4 : ¬ (c ≤ 57) := by omega
     simp [g0, g3, g4, rd_def, hr1, hl', e1, e3, e4, hw5, DC_of hdec, hsl, hx, hn1000, hne, hjo, endK_ret, back, hsc, hnr, bit]
    ·simp [g0, g3, g4, rd_def, hr1, hl', e1, e3, hw5, DC_of hdec, hsl, hx, hn1000, hne, hjo, endK_ret, back, hsc, hnr, bit]
   ·have hl' : ¬ ((pos : Int) + 1 < (T.size : Int)) := by omega
    simp [g0, g3, g4, rd_def, hr1, hl', hw5, DC_of hdec, hsl, hx, hn1000, hne, hjo, endK_ret, back, hsc, hnr, bit]
 ·simp
omit hE in
def numB (T : ByteArray) (pos n : Nat) : Bool :=
 decide (pos < T.size) && decide (n < 10) && (match strIdxV (.string T) (.int .i64 pos) with | some (.int .u8 c) => c == 48 + n | _ => false) &&
 (!decide (pos + 1 < T.size) || match strIdxV (.string T) (.int .i64 ((pos : Int) + 1)) with | some (.int .u8 c) => decide (c < 48 ∨ 57 < c) | _ => false) &&
 ((ByteArray.empty.push (UInt8.ofNat (48 + (n : Int)).toNat)).toList == (T.extract pos (pos + 1)).toList)
theorem numberB_ {h : List O} {r pos n : Nat} {T : ByteArray} {ok : Bool} (hr : h[r]? = some (.cells [.string T, .int .i64 pos, .bool ok] 223 (some 0))) (hT : T.size ≤ 200000) (hb : numB T pos n = true) :
  DR E 183 [.pointer (some ⟨r, 0, none⟩)] ⟨h, h.length⟩ (.ret (.int .i64 n)) ⟨h.set r (.cells [.string T, .int .i64 ((pos : Int) + 1), .bool ok] 223 (some 0)), r⟩ := by
 unfold numB at hb
 simp only [Bool.and_eq_true, decide_eq_true_eq, Bool.or_eq_true, Bool.not_eq_true', decide_eq_false_iff_not] at hb
 obtain ⟨⟨⟨⟨h1, h2⟩, h3⟩, h4⟩, h5⟩ := hb
 refine number_ hE hr hT h1 h2 ?_ (fun hl => ?_) rfl h5
 ·split at h3
  ·rename_i c hc
   rw [hc, beq_iff_eq.1 h3]
   push_cast
   rfl
  ·cases h3
 ·rcases h4 with h4 | h4
  ·exact absurd hl h4
  ·split at h4
   ·rename_i c hc
    exact ⟨c, hc, by simpa using h4⟩
   ·cases h4
theorem takeT_ {h : List O} {r pos : Nat} {T s : ByteArray} {ok : Bool} (hr : h[r]? = some (.cells [.string T, .int .i64 pos, .bool ok] 223 (some 0))) (hT : T.size ≤ 200000) (hs : s.size ≤ 100) (hp : pos ≤ T.size) (hb : tkB T s pos = true) :
  DR E 182 [.pointer (some ⟨r, 0, none⟩), .string s] ⟨h, h.length⟩ (.ret (.bool true)) ⟨h.set r (.cells [.string T, .int .i64 ((pos + s.size : Nat) : Int), .bool ok] 223 (some 0)), r⟩ := by
 have := take_ hE hr hT hs hp
 rw [hb, if_pos rfl] at this
 exact this
theorem takeF_ {h : List O} {r pos : Nat} {T s : ByteArray} {ok : Bool} (hr : h[r]? = some (.cells [.string T, .int .i64 pos, .bool ok] 223 (some 0))) (hT : T.size ≤ 200000) (hs : s.size ≤ 100) (hp : pos ≤ T.size) (hb : tkB T s pos = false) :
  DR E 182 [.pointer (some ⟨r, 0, none⟩), .string s] ⟨h, h.length⟩ (.ret (.bool false)) ⟨h, h.length⟩ := by
 have := take_ hE hr hT hs hp
 rw [hb, if_neg (by simp)] at this
 exact this
end Go.Proofs.Ytjlkndkedknocaa
namespace Go.Proofs.Ytjlkndkedknocaa
open Go Go.Ai
def textB : ByteArray := ByteArray.mk (List.toArray (43 :: 32 :: 51 :: 32 :: 49 :: 32 :: 52 :: 32 :: 48 :: 59 :: 32 :: 43 :: 32 :: 53 :: 32 :: 51 :: 32 :: 48 :: 32 :: 50 :: 59 :: 32 :: 43 :: 32 :: 49 :: 32 :: 53 :: 32 :: 50 :: 32 :: 52 :: 32 :: 124 :: 32 :: 48 :: []))
def rowT : List (List Int) := [[3, 1, 4, 0], [5, 3, 0, 2], [1, 5, 2, 4]]
def xT : Nat → Nat → Int := fun i j => nth (nthR rowT i) j
def sT : Nat → Int := fun _ => 1
set_option maxRecDepth 100000
theorem textB_size : textB.size = 35 := by kernel_rfl
theorem tk_plus : (List.range 3).all (fun i => tkB textB (ByteArray.mk (List.toArray [43])) (11 * i)) = true := by kernel_rfl
theorem tk_blank : (List.range 3).all (fun i => (List.range 4).all fun q => tkB textB (ByteArray.mk (List.toArray [32])) (11 * i + 1 + 2 * q)) = true := by kernel_rfl
theorem tk_num : (List.range 3).all (fun i => (List.range 4).all fun q => numB textB (11 * i + 2 + 2 * q) (xT i q).toNat) = true := by kernel_rfl
theorem tk_semi : (List.range 2).all (fun i => tkB textB (ByteArray.mk (List.toArray [59, 32])) (11 * i + 9)) = true := by kernel_rfl
theorem tk_semi2 : tkB textB (ByteArray.mk (List.toArray [59, 32])) 31 = false := by kernel_rfl
theorem tk_bar : tkB textB (ByteArray.mk (List.toArray [32, 124, 32])) 31 = true := by kernel_rfl
theorem tk_end : numB textB 34 0 = true := by kernel_rfl
def cellQ (i q : Nat) : List Value := [.int .i64 (if 0 < q then xT i 0 else 0), .int .i64 (if 1 < q then xT i 1 else 0), .int .i64 (if 2 < q then xT i 2 else 0), .int .i64 (if 3 < q then xT i 3 else 0), .int .i64 1]
theorem cellQ_set {i q : Nat} (h : q < 4) : (cellQ i q).set q (.int .i64 (xT i q)) = cellQ i (q + 1) := by
 match q, h with
 | 0, _ => rfl
 | 1, _ => rfl
 | 2, _ => rfl
 | 3, _ => rfl
def cellT : Nat → List Value
 | 0 => []
 | i + 1 => cellT i ++ cellQ i 4
attribute [local instance] Classical.propDecidable
def ParP (h0 : List O) (o : Out) (st' : St) : Prop := ∃ a c, o = .ret (.tuple #[dV a 3 c 0, .int .i64 0]) ∧ Sub h0 st'.h ∧ h0.length ≤ st'.fl ∧ CrossP st'.h a 3 xT sT
def rdrC (pos : Int) (ok : Bool) : List Value := [.string textB, .int .i64 pos, .bool ok]
variable {E : Env} (hE : OE E)
include hE
theorem tk_ {h : List O} {R pos m : Nat} {s : ByteArray} (hr : h[R]? = some (.cells (rdrC pos true) 223 (some 0))) (hs : s.size = m) (hm : m ≤ 100) (hp : pos ≤ 35) (hb : tkB textB s pos = true) :
  DR E 182 [.pointer (some ⟨R, 0, none⟩), .string s] ⟨h, h.length⟩ (.ret (.bool true)) ⟨h.set R (.cells (rdrC ((pos + m : Nat) : Int) true) 223 (some 0)), R⟩ := by
 have hz := textB_size
 subst hs
 exact takeT_ hE hr (by omega) hm (by omega) hb
theorem tkF_ {h : List O} {R pos : Nat} {s : ByteArray} (hr : h[R]? = some (.cells (rdrC pos true) 223 (some 0))) (hm : s.size ≤ 100) (hp : pos ≤ 35) (hb : tkB textB s pos = false) :
  DR E 182 [.pointer (some ⟨R, 0, none⟩), .string s] ⟨h, h.length⟩ (.ret (.bool false)) ⟨h, h.length⟩ := by
 have hz := textB_size
 exact takeF_ hE hr (by omega) hm (by omega) hb
theorem parse_ (hk : kindD 3 xT sT 0 = 0) {h0 : List O} : DC E 129 [.string textB] ⟨h0, h0.length⟩ (ParP h0) := by
 refine hE.fnC (body := rb129) rfl ?_
 unfold rb129
 have hz := textB_size
 have hone : one1 (.string textB) = true := rfl
 have hcs : (Value.string textB).cells = #[.string textB] := rfl
 simp [hz, hcs, hone, wrN_at0, wrN_at, set_at0, set_at, List.append_assoc]
 refine DW_loop (fun kk fr st => ∃ (i : Nat) (h : List O) (v : Value), i + kk = 2 ∧ st = ⟨h, h0.length⟩ ∧ Sub h0 h ∧ AtB h h0.length (.cells [.slice none 0 0, .int .i64 0] 24 (some 0)) ∧ AtB h (h0.length + 1) (.cells (rdrC ((11 * i : Nat) : Int) true) 223 (some 0)) ∧ AtB h (h0.length + 2) (.cells [v, .int .i64 0] 24 (some 0)) ∧ OwnS h (h0.length + 3) v i (cellT i) 107 5 ∧ h0.length + 3 ≤ h.length ∧
  get fr 0 = .string textB ∧ get fr 2 = .pointer (some ⟨h0.length, 0, none⟩) ∧ get fr 4 = .pointer (some ⟨h0.length + 1, 0, none⟩) ∧ get fr 5 = .pointer (some ⟨h0.length + 2, 0, none⟩)) ?_ (k := 2) ?_
 ·rintro kk fr st ⟨i, h, v, hik, rfl, hsub, a0, a1, a2, hu, hl, g0, g2, g4, g5⟩
  obtain ⟨L, hL⟩ : ∃ L, L = h0.length := ⟨_, rfl⟩
  obtain ⟨R, hR⟩ : ∃ R, R = h0.length + 1 := ⟨_, rfl⟩
  obtain ⟨D, hD⟩ : ∃ D, D = h0.length + 2 := ⟨_, rfl⟩
  rw [← hL] at a0 g2
  rw [← hR] at a1 g4
  rw [← hD] at a2 g5
  unfold AtB at a0 a1 a2
  have a1' := a1
  simp only [rdrC] at a1'
  simp [g0, g2, g4, g5, rd_def, ↓a1', wrN_at0, set_at0]
  have hi3 : i < 3 := by omega
  have lR := (List.getElem?_eq_some_iff.1 a1).1
  have lD := (List.getElem?_eq_some_iff.1 a2).1
  obtain ⟨C, hC⟩ : ∃ C, C = h.length := ⟨_, rfl⟩
  obtain ⟨Hc, hHc⟩ : ∃ H, H = h ++ [O.cells [.int .i64 0, .int .i64 0, .int .i64 0, .int .i64 0, .int .i64 0] 107 (some 0)] := ⟨_, rfl⟩
  have lc : Hc.length = h.length + 1 := by rw [hHc]; simp
  have b1 : Hc[R]? = some (.cells (rdrC ((11 * i : Nat) : Int) true) 223 (some 0)) := by rw [hHc]; exact app_of a1 _
  have b2 : Hc[D]? = some (.cells [v, .int .i64 0] 24 (some 0)) := by rw [hHc]; exact app_of a2 _
  have b3 : Hc[C]? = some (O.cells [.int .i64 0, .int .i64 0, .int .i64 0, .int .i64 0, .int .i64 0] 107 (some 0)) := by rw [hHc, hC, app_at0]; rfl
  have t1 := tk_ hE (s := ⟨#[43]⟩) (m := 1) b1 rfl (by omega) (by omega) (List.all_eq_true.1 tk_plus i (List.mem_range.2 hi3))
  rw [← hHc, ← hC, show C + 1 = Hc.length by omega]
  refine (DC_of t1).2 ?_
  obtain ⟨H1, hH1⟩ : ∃ H, H = Hc.set R (.cells (rdrC ((11 * i + 1 : Nat) : Int) true) 223 (some 0)) := ⟨_, rfl⟩
  have c3 : H1[C]? = some (O.cells [.int .i64 0, .int .i64 0, .int .i64 0, .int .i64 0, .int .i64 0] 107 (some 0)) := by rw [hH1]; exact set_ne b3 (by omega)
  obtain ⟨H2, hH2⟩ : ∃ H, H = H1.set C (.cells (cellQ i 0) 107 (some 0)) := ⟨_, rfl⟩
  have hH2' : H2 = H1.set C (.cells [.int .i64 0, .int .i64 0, .int .i64 0, .int .i64 0, .int .i64 1] 107 (some 0)) := hH2
  have hj1 : joined ⟨Hc, h0.length⟩ ⟨H1, R⟩ = ⟨H1, h0.length⟩ := by
   simp only [joined]
   rw [if_pos (by omega)]
   congr 1
   omega
  have hmC : min h0.length C = h0.length := by omega
  rw [← hH1]
  simp [hj1, wrN_def, c3, ← hH2', hmC]
  have d1 : H2[R]? = some (.cells (rdrC ((11 * i + 1 : Nat) : Int) true) 223 (some 0)) := by rw [hH2, hH1]; exact set_ne (set_self b1) (by omega)
  have d2 : H2[C]? = some (.cells (cellQ i 0) 107 (some 0)) := by rw [hH2]; exact set_self c3
  have l2 : H2.length = h.length + 1 := by rw [hH2, hH1]; simp [lc]
  have K2 : ∀ (b : Nat) (o : O), h[b]? = some o → b ≠ R → H2[b]? = some o := fun b o hb hn => by
   have := (List.getElem?_eq_some_iff.1 hb).1
   rw [hH2, hH1, hHc]
   exact set_ne (set_ne (app_of hb _) hn) (by omega)
  refine DW_loop (fun kk' fr st => ∃ (q : Nat) (h' : List O), q + kk' = 4 ∧ st = ⟨h', h0.length⟩ ∧ h'.length = H2.length ∧ AtB h' R (.cells (rdrC ((11 * i + 1 + 2 * q : Nat) : Int) true) 223 (some 0)) ∧ AtB h' C (.cells (cellQ i q) 107 (some 0)) ∧ (∀ (b : Nat) (o : O), h[b]? = some o → b ≠ R → h'[b]? = some o) ∧
   get fr 0 = .string textB ∧ get fr 2 = .pointer (some ⟨L, 0, none⟩) ∧ get fr 4 = .pointer (some ⟨R, 0, none⟩) ∧ get fr 5 = .pointer (some ⟨D, 0, none⟩) ∧ get fr 6 = .pointer (some ⟨C, 0, none⟩) ∧ get fr 7 = .int .i64 q) ?_ (k := 4) ?_
  ·clear g0 g2 g4 g5
   rintro kk' fr st ⟨q, h', hqk, rfl, hl', e1, e2, hk', g0, g2, g4, g5, g6, g7⟩
   unfold AtB at e1 e2
   by_cases hq : q < 4
   ·have hw : IntKind.i64.wrap ((q : Int) + 1) = (q : Int) + 1 := by rw [w64_id] <;> omega
    have hq' : (q : Int) < 4 := by omega
    have tb := List.all_eq_true.1 (List.all_eq_true.1 tk_blank i (List.mem_range.2 hi3)) q (List.mem_range.2 hq)
    have tn := List.all_eq_true.1 (List.all_eq_true.1 tk_num i (List.mem_range.2 hi3)) q (List.mem_range.2 hq)
    obtain ⟨p, hp⟩ : ∃ p, p = 11 * i + 1 + 2 * q := ⟨_, rfl⟩
    obtain ⟨p1, hp1⟩ : ∃ p1, p1 = p + 1 := ⟨_, rfl⟩
    obtain ⟨p2, hp2⟩ : ∃ p2, p2 = p + 2 := ⟨_, rfl⟩
    rw [← hp] at e1 tb
    rw [show 11 * i + 2 + 2 * q = p1 by omega] at tn
    have t2 := tk_ hE (s := ⟨#[32]⟩) (m := 1) e1 rfl (by omega) (by omega) tb
    rw [← hp1] at t2
    have e1' := e1
    simp only [rdrC] at e1'
    obtain ⟨h5, hh5⟩ : ∃ H, H = h'.set R (.cells (rdrC (p1 : Int) true) 223 (some 0)) := ⟨_, rfl⟩
    rw [← hh5] at t2
    have l5 : h5.length = h'.length := by rw [hh5]; simp
    have f1 : h5[R]? = some (.cells (rdrC (p1 : Int) true) 223 (some 0)) := by rw [hh5]; exact set_self e1
    have f2 : h5[C]? = some (.cells (cellQ i q) 107 (some 0)) := by rw [hh5]; exact set_ne e2 (by omega)
    have f1' := f1
    simp only [rdrC] at f1'
    have hs5 : h5.set R (.cells (rdrC (p1 : Int) true) 223 (some 0)) = h5 := by
     apply List.ext_getElem?
     intro b
     by_cases hb : b = R
     ·subst hb; rw [f1]; exact set_self f1
     ·rw [List.getElem?_set_ne (fun e => hb e.symm)]
    simp only [rdrC] at hs5
    have t3 := numberB_ hE (h := h5) f1 (by rw [hz]; omega) tn
    obtain ⟨h6, hh6⟩ : ∃ H, H = h5.set R (.cells (rdrC (p2 : Int) true) 223 (some 0)) := ⟨_, rfl⟩
    have t3' : DR E 183 [.pointer (some ⟨R, 0, none⟩)] ⟨h5, h5.length⟩ (.ret (.int .i64 ((xT i q).toNat : Int))) ⟨h6, R⟩ := by
     rw [hh6, show ((p2 : Nat) : Int) = (p1 : Int) + 1 by omega]
     exact t3
    have f5 : h6[R]? = some (.cells (rdrC (p2 : Int) true) 223 (some 0)) := by rw [hh6]; exact set_self f1
    have f6 : h6[C]? = some (.cells (cellQ i q) 107 (some 0)) := by rw [hh6]; exact set_ne f2 (by omega)
    have l6 : h6.length = h'.length := by rw [hh6, List.length_set, l5]
    have K6 : ∀ (b : Nat) (o : O), h[b]? = some o → b ≠ R → h6[b]? = some o := fun b o hb hn => by rw [hh6, hh5]; exact set_ne (set_ne (hk' b o hb hn) hn) hn
    have hxq : ((xT i q).toNat : Int) = xT i q := by
     match i, hi3, q, hq with
     | 0, _, 0, _ => rfl
     | 0, _, 1, _ => rfl
     | 0, _, 2, _ => rfl
     | 0, _, 3, _ => rfl
     | 1, _, 0, _ => rfl
     | 1, _, 1, _ => rfl
     | 1, _, 2, _ => rfl
     | 1, _, 3, _ => rfl
     | 2, _, 0, _ => rfl
     | 2, _, 1, _ => rfl
     | 2, _, 2, _ => rfl
     | 2, _, 3, _ => rfl
    rw [hxq] at t3'
    have hj2 : ∀ x y : List O, R < x.length → joined ⟨x, h0.length⟩ ⟨y, R⟩ = ⟨y, h0.length⟩ := fun x y hx => by
     simp only [joined]
     rw [if_pos hx]
     congr 1
     omega
    have hj5 := hj2 h' h5 (by omega)
    have hj6 := hj2 h5 h6 (by omega)
    have hcl : (cellQ i q).length = 5 := rfl
    have hmR : min h0.length R = h0.length := by omega
    have hmC : min h0.length C = h0.length := by omega
    have hq5 : q + 1 ≤ 5 := by omega
    simp [g0, g2, g4, g5, g6, g7, hq', rd_def, ↓e1', DC_of t2, hj5, hmR, ↓f1', wrN_def, hs5, DC_of t3', hj6, f6, hcl, hq5, hw, hmC, cellQ_set hq]
    have hpc : ((p2 : Nat) : Int) = 11 * (i : Int) + 1 + 2 * ((q + 1 : Nat) : Int) := by omega
    rw [hpc] at f5
    exact ⟨kk' - 1, by omega, q + 1, by omega, by omega, set_ne f5 (by omega), set_self f6, fun b o hb hn => set_ne (K6 b o hb hn) (by have := (List.getElem?_eq_some_iff.1 hb).1; omega), by omega⟩
   ·obtain rfl : q = 4 := by omega
    have hc4 : cellQ i 4 = [.int .i64 (xT i 0), .int .i64 (xT i 1), .int .i64 (xT i 2), .int .i64 (xT i 3), .int .i64 1] := rfl
    obtain ⟨p, hp⟩ : ∃ p, p = 11 * i + 9 := ⟨_, rfl⟩
    rw [show 11 * i + 1 + 2 * 4 = p by omega] at e1
    have a2' := hk' _ _ a2 (by omega)
    have e2' := e2
    rw [hc4] at e2'
    have hu' : OwnS h' (h0.length + 3) v i (cellT i) 107 5 := hu.keep fun b s z1 z2 => by
     rcases hu.2 with ⟨w1, _⟩ | ⟨b2, s2, w1, w2, w3, _⟩
     ·rw [w1] at z1; cases z1
     ·rw [w1] at z1
      simp only [Value.slice.injEq, Option.some.injEq, Addr.mk.injEq] at z1
      exact hk' b _ z2 (by omega)
    obtain ⟨h7, hh7⟩ : ∃ H, H = h' ++ [O.cells [.int .i64 (xT i 0), .int .i64 (xT i 1), .int .i64 (xT i 2), .int .i64 (xT i 3), .int .i64 1] 107 (some 0)] := ⟨_, rfl⟩
    have hread : readSlice h7 5 1 (some ⟨h'.length, 0, none⟩) = some (cellQ i 4) := by rw [hh7, hc4]; simp [readSlice, rdN_at0]
    obtain ⟨b', h8, f8, happ, hb', hown, hf1, hf2, hL8, K8⟩ := append_S (fl := h0.length) (c := 1) (bytes := 40) (hu'.ext (by rw [hh7]; exact Ext.snoc _ _)) hread rfl rfl (by rw [hh7]; simp; omega) (by simp only [roomMax]; omega) (by omega)
    have hone7 : [Value.int .i64 (xT i 0), .int .i64 (xT i 1), .int .i64 (xT i 2), .int .i64 (xT i 3), .int .i64 1].all one1 = true := rfl
    have hvne : ∀ b, b < h0.length + 3 → ∀ n c, v ≠ .slice (some ⟨b, 0, none⟩) n c := fun b hb n c e => by
     rcases hu.2 with ⟨w1, _⟩ | ⟨b2, s2, w1, w2, _⟩
     ·rw [w1] at e; cases e
     ·rw [w1] at e
      simp only [Value.slice.injEq, Option.some.injEq, Addr.mk.injEq] at e
      omega
    have k8 : ∀ (b : Nat) (o : O), b < h0.length + 3 → h'[b]? = some o → h8[b]? = some o := fun b o hb ho => K8 b o (by rw [hh7]; exact app_of ho _) (hvne b hb)
    have m2 := k8 D _ (by omega) a2'
    have m1 := k8 R _ (by omega) e1
    obtain rfl : f8 = h0.length := by omega
    obtain ⟨v', hv'⟩ : ∃ v', v' = Value.slice (some ⟨b', 0, none⟩) (i + 1) (i + 1) := ⟨_, rfl⟩
    rw [← hv'] at happ hown
    obtain ⟨h9, hh9⟩ : ∃ H, H = h8.set D (.cells [v', .int .i64 0] 24 (some 0)) := ⟨_, rfl⟩
    have l7 : h7.length = h'.length + 1 := by rw [hh7]; simp
    have l9 : h9.length = h8.length := by rw [hh9]; simp
    have n1 : h9[R]? = some (.cells (rdrC (p : Int) true) 223 (some 0)) := by rw [hh9]; exact set_ne m1 (by omega)
    have n2 : h9[D]? = some (.cells [v', .int .i64 0] 24 (some 0)) := by rw [hh9]; exact set_self m2
    have hone' : one1 v' = true := by rw [hv']; rfl
    have hcs' : v'.cells = #[v'] := by rw [hv']; rfl
    have hmD : min h0.length D = h0.length := by omega
    have hmR : min h0.length R = h0.length := by omega
    have hj2 : ∀ x y : List O, R < x.length → joined ⟨x, h0.length⟩ ⟨y, R⟩ = ⟨y, h0.length⟩ := fun x y hx => by
     simp only [joined]
     rw [if_pos hx]
     congr 1
    have k9 : ∀ (b : Nat) (o : O), h[b]? = some o → b < h0.length + 3 → b ≠ R → b ≠ D → h9[b]? = some o := fun b o ho hb hn hn2 => by rw [hh9]; exact set_ne (k8 b o hb (hk' b o ho hn)) hn2
    have own9 : ∀ y, y < h0.length + 3 → ∀ o', OwnS (h9.set y o') (h0.length + 3) v' (i + 1) (cellT (i + 1)) 107 5 := fun y hy o' => hown.keep fun b s z1 z2 => by
     rw [hv'] at z1
     simp only [Value.slice.injEq, Option.some.injEq, Addr.mk.injEq] at z1
     rw [hh9]
     exact set_ne (set_ne z2 (by omega)) (by omega)
    by_cases hi2 : i < 2
    ·have t4 := tk_ hE (s := ⟨#[59, 32]⟩) (m := 2) n1 rfl (by omega) (by omega) (by rw [hp]; exact List.all_eq_true.1 tk_semi i (List.mem_range.2 hi2))
     obtain ⟨p2, hp2⟩ : ∃ p2, p2 = p + 2 := ⟨_, rfl⟩
     rw [← hp2] at t4
     obtain ⟨h10, hh10⟩ : ∃ H, H = h9.set R (.cells (rdrC (p2 : Int) true) 223 (some 0)) := ⟨_, rfl⟩
     rw [← hh10] at t4
     have hj10 := hj2 h9 h10 (by omega)
     simp [g0, g2, g4, g5, g6, g7, rd_def, ↓a2', rdN_def, ↓e2', ← hh7, happ, wrN_def, m2, hone', hcs', ← hh9, hmD, DC_of t4, hj10]
     have hpc : ((p2 : Nat) : Int) = 11 * ((i + 1 : Nat) : Int) := by omega
     refine ⟨kk - 1, by omega, i + 1, by omega, ?_, ?_, ?_, v', ?_, ?_, ?_⟩
     ·intro b o hb
      have := (List.getElem?_eq_some_iff.1 hb).1
      rw [hh10]
      exact set_ne (k9 b o (hsub b o hb) (by omega) (by omega) (by omega)) (by omega)
     ·rw [hh10, ← hL]
      exact set_ne (k9 _ _ a0 (by omega) (by omega) (by omega)) (by omega)
     ·rw [hh10, ← hR, ← hpc]
      exact set_self n1
     ·rw [hh10, ← hD]
      exact set_ne n2 (by omega)
     ·rw [hh10]
      exact own9 _ (by omega) _
     ·rw [hh10, List.length_set]
      omega
    ·obtain rfl : i = 2 := by omega
     have t4 := tkF_ hE (s := ⟨#[59, 32]⟩) n1 (by decide) (by omega) (by rw [hp]; exact tk_semi2)
     have t5 := tk_ hE (s := ⟨#[32, 124, 32]⟩) (m := 3) n1 rfl (by omega) (by omega) (by rw [hp]; exact tk_bar)
     obtain ⟨p2, hp2⟩ : ∃ p2, p2 = p + 3 := ⟨_, rfl⟩
     rw [← hp2] at t5
     obtain ⟨h10, hh10⟩ : ∃ H, H = h9.set R (.cells (rdrC (p2 : Int) true) 223 (some 0)) := ⟨_, rfl⟩
     rw [← hh10] at t5
     have hj9 : joined ⟨h9, h0.length⟩ ⟨h9, h9.length⟩ = ⟨h9, h0.length⟩ := joined_mk _ _
     have hj10 := hj2 h9 h10 (by omega)
     have n1' := n1
     simp only [rdrC] at n1'
     have r1 : h10[R]? = some (.cells (rdrC (p2 : Int) true) 223 (some 0)) := by rw [hh10]; exact set_self n1
     have r1' := r1
     simp only [rdrC] at r1'
     have hs10 : h10.set R (.cells (rdrC (p2 : Int) true) 223 (some 0)) = h10 := by
      apply List.ext_getElem?
      intro b
      by_cases hb : b = R
      ·subst hb; rw [r1]; exact set_self r1
      ·rw [List.getElem?_set_ne (fun e => hb e.symm)]
     simp only [rdrC] at hs10
     have t6 := numberB_ hE (h := h10) r1 (by rw [hz]; omega) (show numB textB p2 0 = true by rw [hp2, hp]; exact tk_end)
     obtain ⟨h11, hh11⟩ : ∃ H, H = h10.set R (.cells (rdrC ((35 : Nat) : Int) true) 223 (some 0)) := ⟨_, rfl⟩
     have t6' : DR E 183 [.pointer (some ⟨R, 0, none⟩)] ⟨h10, h10.length⟩ (.ret (.int .i64 0)) ⟨h11, R⟩ := by
      rw [hh11, show ((35 : Nat) : Int) = (p2 : Int) + 1 by omega]
      exact t6
     have l10 : h10.length = h9.length := by rw [hh10]; simp
     have hj11 := hj2 h10 h11 (by omega)
     have u1 : h11[R]? = some (.cells [.string textB, .int .i64 35, .bool true] 223 (some 0)) := by rw [hh11]; exact set_self r1
     have u2 : h11[D]? = some (.cells [v', .int .i64 0] 24 (some 0)) := by rw [hh11, hh10]; exact set_ne (set_ne n2 (by omega)) (by omega)
     have hsD : h11.set D (.cells [v', .int .i64 0] 24 (some 0)) = h11 := by
      apply List.ext_getElem?
      intro b
      by_cases hb : b = D
      ·subst hb; rw [u2]; exact set_self u2
      ·rw [List.getElem?_set_ne (fun e => hb e.symm)]
     have u0 : h11[L]? = some (.cells [.slice none 0 0, .int .i64 0] 24 (some 0)) := by rw [hh11, hh10]; exact set_ne (set_ne (k9 _ _ a0 (by omega) (by omega) (by omega)) (by omega)) (by omega)
     have l11 : h11.length = h9.length := by rw [hh11, List.length_set, l10]
     obtain ⟨s8, own8⟩ : ∃ s, h8[b']? = some (.cells (cellT 3) 107 (some s)) := by
      rcases hown.2 with ⟨w1, _⟩ | ⟨b2, s2, w1, w2, w3, _⟩
      ·rw [hv'] at w1; cases w1
      ·rw [hv'] at w1
       simp only [Value.slice.injEq, Option.some.injEq, Addr.mk.injEq] at w1
       obtain ⟨⟨rfl, _⟩, _⟩ := w1
       exact ⟨s2, w3⟩
     have own11 : h11[b']? = some (.cells (cellT 3) 107 (some s8)) := by
      rw [hh11, hh10, hh9]
      exact set_ne (set_ne (set_ne own8 (by omega)) (by omega)) (by omega)
     have hx11 : CrossP h11 (some ⟨b', 0, none⟩) 3 xT sT := ⟨b', 0, fun _ => rfl, fun j hj => by
      rw [rdN_def, own11]
      match j, hj with
      | 0, _ => rfl
      | 1, _ => rfl
      | 2, _ => rfl⟩
     have hck := checkR_ hE (c := 3) (L := 0) hx11
     rw [hk] at hck
     simp [dV] at hck
     subst hv'
     have hmL : min h0.length L = h0.length := by omega
     simp [g0, g2, g4, g5, g6, g7, rd_def, ↓a2', rdN_def, ↓e2', ← hh7, happ, wrN_def, m2, ← hh9, hmD, DC_of t4, hj9, ↓n1', DC_of t5, hj10, ↓r1', hs10, hmR, DC_of t6', hj11, ↓u1, ↓u2, hsD, hz, DC_of hck, ↓u0, hmL]
     have hself : (h11.set L (O.cells [.slice (some ⟨b', 0, none⟩) 3 3, .int .i64 0] 24 (some 0)))[L]? = some (O.cells [.slice (some ⟨b', 0, none⟩) 3 3, .int .i64 0] 24 (some 0)) := set_self u0
     simp [↓hself]
     have hP : ParP h0 (.ret (.tuple #[dV (some ⟨b', 0, none⟩) 3 3 0, .int .i64 0])) ⟨h11.set L (O.cells [.slice (some ⟨b', 0, none⟩) 3 3, .int .i64 0] 24 (some 0)), h0.length⟩ := by
      refine ⟨_, _, rfl, fun b o hb => ?_, Nat.le_refl _, b', 0, fun _ => rfl, fun j hj => ?_⟩
      ·have := (List.getElem?_eq_some_iff.1 hb).1
       rw [hh11, hh10]
       exact set_ne (set_ne (set_ne (k9 b o (hsub b o hb) (by omega) (by omega) (by omega)) (by omega)) (by omega)) (by omega)
      ·rw [rdN_def, set_ne own11 (by omega)]
       match j, hj with
       | 0, _ => rfl
       | 1, _ => rfl
       | 2, _ => rfl
     unfold pairQ back
     rw [if_neg (by simp [Out.scalar, scalar, flat1, flat])]
     exact hP
  ·exact ⟨0, H2, by omega, rfl, rfl, d1, d2, K2, by simp [g0, g2, g4, g5]⟩
 ·refine ⟨0, _, .slice none 0 0, rfl, rfl, (Sub.refl h0).app _, ?_, ?_, ?_, OwnS.nil _ _ _ _, by simp, by simp⟩
  ·unfold AtB; rw [app_at0]; rfl
  ·unfold AtB; rw [app_at]; rfl
  ·unfold AtB; rw [app_at]; rfl
end Go.Proofs.Ytjlkndkedknocaa
namespace Go.Proofs.Ytjlkndkedknocaa
open Go Go.Ai
theorem c57_0a : cmpT 43 (lcA 57 0) = some ra57_0 := by kernel_rfl
theorem c57_0b : cmpT 43 (lcB 57 0) = some rl57_0 := by kernel_rfl
theorem c70_0a : cmpT 98 (lcA 70 0) = some ra70_0 := by kernel_rfl
theorem c70_0b : cmpT 98 (lcB 70 0) = some rl70_0 := by kernel_rfl
theorem c219_0a : cmpT 46 (lcA 219 0) = some ra219_0 := by kernel_rfl
theorem c219_0b : cmpT 46 (lcB 219 0) = some rl219_0 := by kernel_rfl
theorem E0_cmp : E0.cmp = cmpT := by unfold E0; rfl
theorem E0_S (f : FuncId) : E0.S f = none := by unfold E0; rfl
theorem E0_OE : OE E0 := ⟨fun f rf h => h, fun f h _ => E0_S f, fun k => E0_S _, by rw [E0_cmp]; exact c57_0a, by rw [E0_cmp]; exact c57_0b, by rw [E0_cmp]; exact c70_0a, by rw [E0_cmp]; exact c70_0b, by rw [E0_cmp]; exact c219_0a, by rw [E0_cmp]; exact c219_0b⟩
theorem OE.sum148 {E : Env} (h : OE E) : OE (withK E 4 148) := ⟨h.F, fun f hf h148 => (if_neg h148).trans (h.S f hf h148), fun k => (if_neg (Nat.ne_of_gt (Nat.lt_of_lt_of_le (show 148 < yB by decide) (Nat.le_add_right _ _)))).trans (h.Y k), h.c57_0a, h.c57_0b, h.c70_0a, h.c70_0b, h.c219_0a, h.c219_0b⟩
end Go.Proofs.Ytjlkndkedknocaa
namespace Go.Proofs.Ytjlkndkedknocaa
open Go Go.Ai
def seenN : Option (Out × St) → Option Int
 | some (.ret (.int _ n), _) => some n
 | _ => none
theorem seenN_some {x : Option (Out × St)} {n : Int} (h : seenN x = some n) : ∃ k st, x = some (.ret (.int k n), st) := by
 unfold seenN at h
 split at h
 ·obtain rfl := Option.some.inj h; exact ⟨_, _, rfl⟩
 ·cases h
noncomputable def trefH : List O := [.cells (cellT 3) 107 (some 0)]
set_option maxRecDepth 100000 in
theorem tref_run : seenN (call E0 400 87 [dV (some ⟨0, 0, none⟩) 3 3 0] ⟨trefH, 1⟩) = some 0 := by kernel_rfl
theorem trefP : CrossP trefH (some ⟨0, 0, none⟩) 3 xT sT := ⟨0, 0, fun _ => rfl, fun i hi => by
 match i, hi with
 | 0, _ => rfl
 | 1, _ => rfl
 | 2, _ => rfl⟩
theorem kind_T : kindD 3 xT sT 0 = 0 := by
 obtain ⟨k, st, h⟩ := seenN_some tref_run
 have h1 := check_ E0_OE (c := 3) (L := 0) trefP
 have h3 := (DR.unique h1 ⟨400, h⟩).1
 simp only [Out.ret.injEq, Value.int.injEq] at h3
 exact h3.2
end Go.Proofs.Ytjlkndkedknocaa
namespace Go.Ai
attribute [local instance] Classical.propDecidable
theorem appendEN {el : TypeId} {size bytes b o n c fl : Nat} {H : List O} {l : List Value} (hr : rdN H b o (n * size) = some l) (hn : 0 < n) (hs : 0 < size) (hall : l.all one1 = true) (hroom : n * bytes ≤ roomMax) :
  appendV el size bytes emptyS (.slice (some ⟨b, o, none⟩) n c) ⟨H, fl⟩ = some (.slice (some ⟨H.length, 0, none⟩) n n, ⟨H ++ [.cells l el (some size)], fl⟩) := by
 have hns : ¬ n * size = 0 := by
  have := Nat.mul_pos hn hs; omega
 have hrd : readSlice H size n (some ⟨b, o, none⟩) = some l := by simp only [readSlice]; rw [if_neg hns]; exact hr
 simp only [appendV, emptyS, hrd, bind, Option.bind_some, appendCells]
 rw [if_neg (by omega), if_neg (by omega), if_pos ⟨by rw [Nat.zero_add]; exact hroom, hall⟩]
 simp [readSlice, kill]
theorem append_fit {el : TypeId} {bytes b k c xb fl : Nat} {H : List O} {cs : List Value} {e : TypeId} {s : Nat} {v : Value} (hb : H[b]? = some (.cells cs e (some s))) (hk : k + 1 ≤ c) (hc : k + 1 ≤ cs.length) (hv : one1 v = true) (hx : rdN H xb 0 1 = some [v]) :
  appendV el 1 bytes (.slice (some ⟨b, 0, none⟩) k c) (.slice (some ⟨xb, 0, none⟩) 1 1) ⟨H, fl⟩ = some (.slice (some ⟨b, 0, none⟩) (k + 1) c, ⟨H.set b (.cells (cs.set k v) e (some s)), min fl b⟩) := by
 have hrd : readSlice H 1 1 (some ⟨xb, 0, none⟩) = some [v] := by simp [readSlice, hx]
 simp only [appendV, hrd, bind, Option.bind_some, appendCells]
 rw [if_neg (by omega), if_pos (by omega)]
 simp [wrN, hb, hc, hv]
def visL (n : Nat) : Nat → List Int → List (List Int)
 | 0, f => [f]
 | m + 1, f => (List.range n).flatMap fun (x : Nat) => if (x : Int) ∈ f then [] else visL n m (f ++ [(x : Int)])
def visI (n m : Nat) (f : List Int) (i : Nat) : List (List Int) := (List.range i).flatMap fun (x : Nat) => if (x : Int) ∈ f then [] else visL n m (f ++ [(x : Int)])
theorem visI_succ (n m : Nat) (f : List Int) (i : Nat) : visI n m f (i + 1) = visI n m f i ++ (if (i : Int) ∈ f then [] else visL n m (f ++ [(i : Int)])) := by
 unfold visI
 rw [List.range_succ, List.flatMap_append]
 simp
theorem visL_le (n : Nat) : ∀ m f, (visL n m f).length ≤ n ^ m := by
 intro m
 induction m with
 | zero => intro f; simp [visL]
 | succ m ih =>
  intro f
  have key : ∀ i, ((List.range i).flatMap fun (x : Nat) => if (x : Int) ∈ f then [] else visL n m (f ++ [(x : Int)])).length ≤ i * n ^ m := by
   intro i
   induction i with
   | zero => simp
   | succ i ih2 =>
    rw [List.range_succ, List.flatMap_append, List.length_append, Nat.succ_mul]
    have h2 : ([i].flatMap fun x : Nat => if (x : Int) ∈ f then [] else visL n m (f ++ [(x : Int)])).length ≤ n ^ m := by
     simp only [List.flatMap_cons, List.flatMap_nil, List.append_nil]
     split
     ·simp
     ·exact ih _
    omega
  have := key n
  rw [Nat.pow_succ, Nat.mul_comm]
  exact this
theorem visI_le (n m : Nat) (f : List Int) (i : Nat) : (visI n m f i).length ≤ i * n ^ m := by
 induction i with
 | zero => simp [visI]
 | succ i ih =>
  rw [visI_succ, List.length_append, Nat.succ_mul]
  have h2 : (if (i : Int) ∈ f then [] else visL n m (f ++ [(i : Int)])).length ≤ n ^ m := by
   split
   ·simp
   ·exact visL_le _ _ _
  omega
theorem take_nth {buf f : List Int} {k : Nat} (h : buf.take k = f) (hk : f.length = k) {i : Nat} (hi : i < k) : nth buf i = nth f i := by
 rw [← h]
 unfold nth
 rw [List.getD_eq_getElem?_getD, List.getD_eq_getElem?_getD, List.getElem?_take, if_pos hi]
end Go.Ai
namespace Go.Proofs.Ytjlkndkedknocaa
open Go Go.Ai
attribute [local instance] Classical.propDecidable
variable {E : Env} (hE : OE E)
include hE
theorem indexI2_ {h : List O} {v : Value} {xs : List Int} {y : Int} (hv : Ints h v xs) (hlt : xs.length < 1000000) :
  DR E 211 [v, .int .i64 y] ⟨h, h.length⟩ (.ret (.int .i64 (firstI (fun j => decide (nth xs j = y)) xs.length))) ⟨h, h.length⟩ := by
 refine hE.fn (body := rb211) rfl ?_
 unfold rb211
 obtain ⟨a, b, o, c, rfl, ha, hrd⟩ := hv.at
 simp
 refine DW_loop (fun kk fr st => ∃ (i : Nat), i + kk = xs.length ∧ st = ⟨h, h.length⟩ ∧ (∀ j, j < i → nth xs j ≠ y) ∧ get fr 0 = .slice a xs.length c ∧ get fr 1 = .int .i64 y ∧ get fr 7 = .int .i64 xs.length ∧ get fr 8 = .int .i64 i) ?_ (k := xs.length) ?_
 ·rintro kk fr st ⟨i, hik, rfl, hm, g0, g1, g7, g8⟩
  by_cases hi : i < xs.length
  ·have hw : IntKind.i64.wrap ((i : Int) + 1) = (i : Int) + 1 := by rw [w64_id] <;> omega
   obtain rfl := ha (by omega)
   have hr := hrd i hi
   by_cases hy : nth xs i = y
   ·have hf : firstI (fun j => decide (nth xs j = y)) xs.length = i := firstI_found hi (by simp [hy]) (fun j hj => by simp [hm j hj])
    rw [hy] at hr
    simp [g0, g1, g7, g8, hi, rd_def, hr, endK_ret, hf]
   ·have hy' : ¬ y = nth xs i := fun e => hy e.symm
    simp [g0, g1, g7, g8, hi, rd_def, hr, hy', hw]
    refine ⟨kk - 1, by omega, i + 1, by omega, fun j hj => ?_, by omega⟩
    by_cases e : j = i
    ·rw [e]; exact hy
    ·exact hm j (by omega)
  ·have hin : i = xs.length := by omega
   subst hin
   have hf : firstI (fun j => decide (nth xs j = y)) xs.length = -1 := firstI_none (fun j hj => by simp [hm j hj])
   simp [g0, g1, g7, g8, endK_ret, hf]
 ·exact ⟨0, by omega, rfl, fun j h => by omega, by simp⟩
theorem containsI_ {h : List O} {v : Value} {xs : List Int} {y : Int} (hv : Ints h v xs) (hlt : xs.length < 1000000) :
  DR E 187 [v, .int .i64 y] ⟨h, h.length⟩ (.ret (.bool (decide (y ∈ xs)))) ⟨h, h.length⟩ := by
 refine hE.fn (body := rb187) rfl ?_
 unfold rb187
 have hi := indexI2_ hE (y := y) hv hlt
 have hiff : (0 ≤ firstI (fun j => decide (nth xs j = y)) xs.length) ↔ y ∈ xs := by
  rcases firstI_cases (fun j => decide (nth xs j = y)) xs.length with ⟨i, h1, h2, _, h3⟩ | ⟨h1, h2⟩
  ·rw [h3]
   have : nth xs i = y := by simpa using h2
   exact ⟨fun _ => this ▸ nth_mem h1, fun _ => by omega⟩
  ·rw [h2]
   refine ⟨fun h => by omega, fun h => ?_⟩
   obtain ⟨j, hj, rfl⟩ := List.getElem_of_mem h
   have := h1 j hj
   rw [nth_eq hj] at this
   simp at this
 simp [DC_of hi, endK_ret, hiff]
theorem clone_ {h : List O} {b n c : Nat} {f : List Int} (hr : rdN h b 0 n = some (intsC f)) (hn : 0 < n) (hs : n ≤ 100000) :
  DR E 179 [.slice (some ⟨b, 0, none⟩) n c] ⟨h, h.length⟩ (.ret (.slice (some ⟨h.length, 0, none⟩) n n)) ⟨h ++ [.cells (intsC f) 3 (some 1)], h.length⟩ := by
 refine hE.fn (body := rb179) rfl ?_
 unfold rb179
 have hall : (intsC f).all one1 = true := by simp [intsC]
 have happ := appendEN (el := 3) (size := 1) (bytes := 8) (c := c) (fl := h.length) (by rw [Nat.mul_one]; exact hr) hn (by omega) hall (by simp only [roomMax]; omega)
 simp [happ, endK_ret]
 unfold pairQ back
 rw [if_neg (by simp [Out.scalar, scalar, flat1, flat])]
 exact ⟨rfl, rfl⟩
end Go.Proofs.Ytjlkndkedknocaa
namespace Go.Proofs.Ytjlkndkedknocaa
open Go Go.Ai
attribute [local instance] Classical.propDecidable
def PrmI (h : List O) (lo n : Nat) (vs : List Value) (Ls : List (List Int)) : Prop :=
 ∀ q, q < Ls.length → ∃ b, vs[q]? = some (.slice (some ⟨b, 0, none⟩) n n) ∧ lo ≤ b ∧ h[b]? = some (.cells (intsC (nthR Ls q)) 3 (some 1))
structure VsI (h : List O) (lo n B po k : Nat) (f : List Int) (Ls : List (List Int)) : Prop where
 buf : ∃ buf, h[B]? = some (.cells (intsC buf) 3 (some 0)) ∧ buf.length = n ∧ buf.take k = f
 out : ∃ ov vs, h[po]? = some (.cells [ov] 48 (some 0)) ∧ OwnS h lo ov Ls.length vs 34 1 ∧ PrmI h lo n vs Ls
 lo_ : lo ≤ h.length
def VisP (h : List O) (base lo n B po k : Nat) (f : List Int) (Ls : List (List Int)) (st' : St) : Prop :=
 base ≤ st'.fl ∧ h.length ≤ st'.h.length ∧ (∀ (b : Nat) (o : O), b < lo → h[b]? = some o → b ≠ po → b ≠ B → st'.h[b]? = some o) ∧ VsI st'.h lo n B po k f Ls
def visV (pn po pv : Nat) : Value := .func (.func 186) #[] #[.pointer (some ⟨pn, 0, none⟩), .pointer (some ⟨po, 0, none⟩), .pointer (some ⟨pv, 0, none⟩)]
theorem take_set_snoc {buf f : List Int} {k : Nat} {x : Int} (h : buf.take k = f) (hk : k < buf.length) : (buf.set k x).take (k + 1) = f ++ [x] := by
 apply List.ext_getElem?
 intro i
 rw [List.getElem?_take]
 have hf : f.length = k := by rw [← h, List.length_take]; omega
 by_cases hi : i < k
 ·rw [if_pos (by omega), List.getElem?_set_ne (by omega), List.getElem?_append_left (by omega), ← h, List.getElem?_take, if_pos hi]
 ·by_cases e : i = k
  ·rw [if_pos (by omega), e, List.getElem?_set_self hk, List.getElem?_append_right (by omega), hf]; simp
  ·rw [if_neg (by omega), List.getElem?_eq_none (by simp; omega)]
variable {E : Env} (hE : OE E)
include hE
theorem visit_ {n lo base B pn po pv : Nat} (hn : n ≤ 6) (h1 : base ≤ B) (h2 : base ≤ po) (h3 : base ≤ lo) (h4 : B < lo) (h5 : po < lo) (h6 : pn < lo) (h7 : pv < lo) (h8 : po ≠ B) (h9 : pn ≠ B) (h10 : pn ≠ po) (h11 : pv ≠ B) (h12 : pv ≠ po) :
  ∀ (m : Nat) {h : List O} {f : List Int} {Ls : List (List Int)}, f.length + m = n → (∀ y ∈ f, 0 ≤ y ∧ y < n) → 0 < n → Ls.length + n ^ m ≤ 1000000 →
   h[pn]? = some (.cells [.int .i64 n] 3 (some 0)) → h[pv]? = some (.cells [visV pn po pv] 226 (some 0)) → VsI h lo n B po f.length f Ls →
   DC E 186 [.slice (some ⟨B, 0, none⟩) f.length n, .pointer (some ⟨pn, 0, none⟩), .pointer (some ⟨po, 0, none⟩), .pointer (some ⟨pv, 0, none⟩)] ⟨h, h.length⟩ fun o st' => o = .ret (.tuple #[]) ∧ VisP h base lo n B po f.length f (Ls ++ visL n m f) st' := by
 intro m
 induction m with
 | zero =>
  intro h f Ls hfm hf hn0 hbd e1 e2 hI
  refine hE.fnC (body := rb186) rfl ?_
  unfold rb186
  obtain ⟨buf, hb, hbl, hbt⟩ := hI.buf
  obtain ⟨ov, vs, ho, hov, hP⟩ := hI.out
  have hlo := hI.lo_
  have hfn : f.length = n := by omega
  have hbf : buf = f := by rw [← hbt, hfn, ← hbl, List.take_length]
  subst hbf
  have hrd : rdN h B 0 n = some (intsC buf) := by
   rw [rdN_def, hb, rdNO_cells, if_pos (by simp; omega)]
   simp [List.take_of_length_le, hbl]
  have hcl := clone_ hE (c := n) hrd hn0 (by omega)
  obtain ⟨H2, hH2⟩ : ∃ H2, H2 = h ++ [O.cells (intsC buf) 3 (some 1)] := ⟨_, rfl⟩
  have hl2 : H2.length = h.length + 1 := by rw [hH2]; simp
  have hE2 : Ext h H2 := by rw [hH2]; exact Ext.snoc _ _
  have hin : H2[h.length]? = some (O.cells (intsC buf) 3 (some 1)) := by rw [hH2, app_at0]; rfl
  have hu2 : OwnS (H2 ++ [.cells [.slice (some ⟨h.length, 0, none⟩) n n] 34 (some 0)]) lo ov Ls.length vs 34 1 := hov.ext (hE2.trans (Ext.snoc _ _))
  have hread : readSlice (H2 ++ [.cells [.slice (some ⟨h.length, 0, none⟩) n n] 34 (some 0)]) 1 1 (some ⟨H2.length, 0, none⟩) = some [.slice (some ⟨h.length, 0, none⟩) n n] := by simp [readSlice, rdN_at0]
  obtain ⟨b', H4, f4, happ, hb', hown, hf1, hf2, hL4, K4⟩ := append_S (fl := h.length) (c := 1) (bytes := 24) hu2 hread (by simp) (by simp) (by simp; omega) (by simp only [roomMax]; omega) (by omega)
  have hnei : ∀ (b : Nat) (cs : List Value) (ow : Option Nat), H2[b]? = some (.cells cs 3 ow) → ∀ n' c', ov ≠ .slice (some ⟨b, 0, none⟩) n' c' := fun b cs ow hb n' c' e => by
   rcases hov.2 with ⟨h1, _⟩ | ⟨b2, s2, h1, h2, h3, _⟩
   ·rw [e] at h1; cases h1
   ·rw [e] at h1
    simp only [Value.slice.injEq, Option.some.injEq, Addr.mk.injEq] at h1
    obtain ⟨l, hl⟩ := hE2
    rw [h1.1.1, hl, app_of h3] at hb
    cases hb
  have hneH : ∀ (b : Nat), b < lo → ∀ n' c', ov ≠ .slice (some ⟨b, 0, none⟩) n' c' := fun b hb n' c' e => by
   rcases hov.2 with ⟨h1, _⟩ | ⟨b2, s2, h1, h2, h3, _⟩
   ·rw [e] at h1; cases h1
   ·rw [e] at h1
    simp only [Value.slice.injEq, Option.some.injEq, Addr.mk.injEq] at h1
    omega
  have kB : ∀ (b : Nat) (o : O), b < lo → h[b]? = some o → H4[b]? = some o := fun b o hbl hb => by
   obtain ⟨l, hl⟩ := hE2
   exact K4 b o (by rw [hl, List.append_assoc]; exact app_of hb _) (hneH b hbl)
  have k4 := kB _ _ h5 ho
  have happ2 := happ
  rw [hl2] at happ2
  simp only [hH2, List.append_assoc, List.cons_append, List.nil_append] at happ2
  rw [hfn]
  simp [rd_def, e1, ho, DC_of hcl, bit, List.append_assoc, happ2, wrN_def, k4, endK_ret]
  unfold pairQ back
  rw [if_neg (by simp; omega)]
  refine ⟨rfl, by simp only; omega, ?_, fun b o hbl hb hn1 hn2 => set_ne (kB b o hbl hb) hn1, ⟨buf, set_ne (kB _ _ h4 hb) (Ne.symm h8), hbl, by rw [← hfn]; exact hbt⟩, ?_, by simp at hL4 ⊢; omega⟩
  ·simp at hL4 ⊢; omega
  ·have hlenL : (Ls ++ visL n 0 buf).length = Ls.length + 1 := by simp [visL]
   refine ⟨_, vs ++ [.slice (some ⟨h.length, 0, none⟩) n n], set_self k4, ?_, fun q hq => ?_⟩
   ·rw [hlenL]
    exact hown.keep fun b s e1 e2 => set_ne e2 (by
     simp at e1 hb'
     omega)
   ·have hvl : vs.length = Ls.length := by have := hov.1; omega
    by_cases e : q < Ls.length
    ·obtain ⟨b, q1, q2, q3⟩ := hP q e
     have hq3 : H2[b]? = some (O.cells (intsC (nthR Ls q)) 3 (some 1)) := by rw [hH2]; exact app_of q3 _
     have hnq : nthR (Ls ++ visL n 0 buf) q = nthR Ls q := by simp [nthR, List.getElem?_append_left e]
     rw [hnq]
     exact ⟨b, by rw [List.getElem?_append_left (by omega)]; exact q1, q2, set_ne (K4 b _ (app_of hq3 _) (hnei b _ _ hq3)) (by omega)⟩
    ·have hqe : q = Ls.length := by omega
     have hnq : nthR (Ls ++ visL n 0 buf) q = buf := by simp [nthR, hqe, visL]
     rw [hnq]
     exact ⟨h.length, by rw [List.getElem?_append_right (by omega), hvl, hqe]; simp, by omega, set_ne (K4 _ _ (app_of hin _) (hnei _ _ _ hin)) (by omega)⟩
 | succ m ih =>
  intro h f Ls hfm hf hn0 hbd e1 e2 hI
  refine hE.fnC (body := rb186) rfl ?_
  unfold rb186
  have hlo := hI.lo_
  have hk : f.length < n := by omega
  have hkn : ¬ f.length = n := by omega
  have hkn' : ¬ (f.length : Int) = n := by omega
  simp [rd_def, e1, hkn, hkn']
  have hvl : visL n (m + 1) f = visI n m f n := rfl
  rw [hvl]
  refine DW_loop (fun kk fr st => ∃ (i : Nat) (h' : List O) (f' : Nat), i + kk = n ∧ st = ⟨h', f'⟩ ∧ base ≤ f' ∧ ((h' = h ∧ f' = h.length ∧ visI n m f i = []) ∨ f' < h.length) ∧ h.length ≤ h'.length ∧ (∀ (b : Nat) (o : O), b < lo → h[b]? = some o → b ≠ po → b ≠ B → h'[b]? = some o) ∧ VsI h' lo n B po f.length f (Ls ++ visI n m f i) ∧
   get fr 0 = .slice (some ⟨B, 0, none⟩) f.length n ∧ get fr 1 = .pointer (some ⟨pn, 0, none⟩) ∧ get fr 2 = .pointer (some ⟨po, 0, none⟩) ∧ get fr 3 = .pointer (some ⟨pv, 0, none⟩) ∧ get fr 15 = .int .i64 n ∧ get fr 16 = .int .i64 i) ?_ (k := n) ?_
  ·rintro kk fr st ⟨i, h', f', hik, rfl, hbf, hfl, hlen, hkeep, hI', g0, g1, g2, g3, g15, g16⟩
   obtain ⟨buf, hb, hbl, hbt⟩ := hI'.buf
   have hlo' := hI'.lo_
   by_cases hi : i < n
   ·have hw : IntKind.i64.wrap ((i : Int) + 1) = (i : Int) + 1 := by rw [w64_id] <;> omega
    have hInt : Ints h' (.slice (some ⟨B, 0, none⟩) f.length n) f := by
     refine ⟨_, B, 0, n, rfl, fun _ => rfl, fun j hj => ?_, fun j => ?_, by omega⟩
     ·rw [rd_def, hb, Nat.zero_add]
      simp only [rdO_cells]
      rw [intsC_get (by omega), take_nth hbt rfl hj]
     ·by_cases hj : j < f.length
      ·have := hf _ (nth_mem hj)
       constructor <;> omega
      ·rw [nth_ge (by omega)]; constructor <;> omega
    have hct := containsI_ hE (y := (i : Int)) hInt (by omega)
    by_cases hmem : (i : Int) ∈ f
    ·have hvs : visI n m f (i + 1) = visI n m f i := by rw [visI_succ, if_pos hmem, List.append_nil]
     simp [g0, g1, g2, g3, g15, g16, hi, DC_of hct, hmem, hw]
     refine ⟨kk - 1, by omega, i + 1, by omega, h', f', ⟨rfl, rfl⟩, hbf, ?_, hlen, hkeep, ?_, by omega⟩
     ·rw [hvs]; exact hfl
     ·rw [hvs]; exact hI'
    ·have hvs : visI n m f (i + 1) = visI n m f i ++ visL n m (f ++ [(i : Int)]) := by rw [visI_succ, if_neg hmem]
     have hpv := hkeep _ _ h7 e2 h12 h11
     have hpn := hkeep _ _ h6 e1 h10 h9
     have hBl := (List.getElem?_eq_some_iff.1 hb).1
     have hx0 : rdN (h' ++ [O.cells [.int .i64 i] 3 (some 0)]) h'.length 0 1 = some [.int .i64 i] := by simp [rdN_at0]
     have happ := append_fit (el := 3) (bytes := 8) (k := f.length) (c := n) (fl := f') (app_of hb [O.cells [.int .i64 i] 3 (some 0)]) (by omega) (by simp; omega) (by rfl) hx0
     rw [intsC_set] at happ
     obtain ⟨H, hH⟩ : ∃ H, H = (h' ++ [O.cells [.int .i64 i] 3 (some 0)]).set B (.cells (intsC (buf.set f.length i)) 3 (some 0)) := ⟨_, rfl⟩
     have hlH : H.length = h'.length + 1 := by rw [hH, List.length_set]; simp
     rw [← hH] at happ
     have hKH : ∀ (b : Nat) (o : O), h'[b]? = some o → b ≠ B → H[b]? = some o := fun b o hb hn => by rw [hH]; exact set_ne (app_of hb _) hn
     have hHB : H[B]? = some (.cells (intsC (buf.set f.length i)) 3 (some 0)) := by rw [hH]; exact set_self (app_of hb _)
     obtain ⟨ov, vs, ho, hov, hP⟩ := hI'.out
     have hfl1 : (f ++ [(i : Int)]).length = f.length + 1 := by simp
     have hIH : VsI H lo n B po (f ++ [(i : Int)]).length (f ++ [(i : Int)]) (Ls ++ visI n m f i) := by
      refine ⟨⟨_, hHB, by simp [hbl], by rw [hfl1]; exact take_set_snoc hbt (by omega)⟩, ⟨ov, vs, hKH _ _ ho h8, ?_, fun q hq => ?_⟩, by omega⟩
      ·refine hov.keep fun b s e1 e2 => hKH _ _ e2 fun e => ?_
       rcases hov.2 with ⟨z1, _⟩ | ⟨b2, s2, z1, z2, z3, _⟩
       ·rw [z1] at e1; cases e1
       ·rw [z1] at e1
        simp only [Value.slice.injEq, Option.some.injEq, Addr.mk.injEq] at e1
        omega
      ·obtain ⟨b, q1, q2, q3⟩ := hP q hq
       exact ⟨b, q1, q2, hKH _ _ q3 (by omega)⟩
     have hvle := visI_le n m f i
     have hmul : (i + 1) * n ^ m ≤ n * n ^ m := Nat.mul_le_mul_right _ (by omega)
     rw [Nat.succ_mul] at hmul
     rw [Nat.pow_succ, Nat.mul_comm] at hbd
     have hcall := ih (h := H) (f := f ++ [(i : Int)]) (Ls := Ls ++ visI n m f i) (by rw [hfl1]; omega) (fun y hy => by
      rcases List.mem_append.1 hy with hy | hy
      ·exact hf y hy
      ·simp at hy; omega) hn0 (by rw [List.length_append]; omega) (hKH _ _ hpn h9) (hKH _ _ hpv h11) hIH
     rw [hfl1] at hcall
     simp [visV] at hpv
     simp [g0, g1, g2, g3, g15, g16, hi, DC_of hct, hmem, rd_def, hpv, bit, happ, -List.length_append]
     refine ⟨Ne.symm h11, hcall.imp ?_⟩
     rintro o ⟨h4', f4⟩ ⟨rfl, r1, r2, r3, r4⟩
     simp only at r1 r2 r3 r4
     have hjf : ∃ f5, joined ⟨H, min f' B⟩ ⟨h4', f4⟩ = ⟨h4', f5⟩ ∧ base ≤ f5 ∧ f5 < h.length := by
      simp only [joined]
      by_cases c : f4 < H.length
      ·rw [if_pos c]; exact ⟨_, rfl, by omega, by omega⟩
      ·rw [if_neg c]; exact ⟨_, rfl, by omega, by omega⟩
     obtain ⟨f5, hj5, hj6, hj7⟩ := hjf
     have hl4 : h.length ≤ h4'.length := by omega
     simp [hj5, bit, g0, g1, g2, g3, g15, g16, hw]
     refine ⟨kk - 1, by omega, i + 1, by omega, h4', f5, ⟨rfl, rfl⟩, hj6, .inr hj7, hl4, fun b o hbl hb hn1 hn2 => r3 b o hbl (hKH _ _ (hkeep b o hbl hb hn1 hn2) hn2) hn1 hn2, ?_, by omega⟩
     rw [hvs, ← List.append_assoc]
     obtain ⟨buf2, y1, y2, y3⟩ := r4.buf
     refine ⟨⟨buf2, y1, y2, ?_⟩, r4.out, r4.lo_⟩
     have := congrArg (List.take f.length) y3
     rw [List.take_take, Nat.min_eq_left (by omega), List.take_left] at this
     exact this
   ·have hin : i = n := by omega
    subst hin
    simp [g0, g1, g2, g3, g15, g16]
    rcases hfl with ⟨rfl, rfl, hv0⟩ | hfl
    ·unfold pairQ
     rw [back_scalar (by rfl) (Nat.le_refl _)]
     exact ⟨rfl, by simp only; omega, Nat.le_refl _, fun b o _ hb _ _ => hb, hI'⟩
    ·unfold pairQ back
     rw [if_neg (by simp; omega)]
     exact ⟨rfl, hbf, hlen, hkeep, hI'⟩
  ·refine ⟨0, h, h.length, by omega, rfl, by omega, .inl ⟨rfl, rfl, by simp [visI]⟩, Nat.le_refl _, fun b o _ hb _ _ => hb, by simpa [visI] using hI, by simp⟩
end Go.Proofs.Ytjlkndkedknocaa
namespace Go.Ai
def permL (n : Nat) : List (List Int) := visL n n []
end Go.Ai
namespace Go.Proofs.Ytjlkndkedknocaa
open Go Go.Ai
attribute [local instance] Classical.propDecidable
def PermsP (h : List O) (lo n : Nat) (v : Value) : Prop := ∃ vs, OwnS h lo v (permL n).length vs 34 1 ∧ PrmI h lo n vs (permL n)
theorem PrmI.keep {h h' : List O} {lo n : Nat} {vs : List Value} {Ls : List (List Int)} (k : PrmI h lo n vs Ls) (hk : ∀ (b : Nat) (o : O), lo ≤ b → h[b]? = some o → h'[b]? = some o) : PrmI h' lo n vs Ls := fun q hq => by
 obtain ⟨b, h1, h2, h3⟩ := k q hq
 exact ⟨b, h1, h2, hk b _ h2 h3⟩
theorem PermsP.keep {h h' : List O} {lo n : Nat} {v : Value} (k : PermsP h lo n v) (hk : ∀ (b : Nat) (o : O), lo ≤ b → h[b]? = some o → h'[b]? = some o) : PermsP h' lo n v := by
 obtain ⟨vs, h1, h2⟩ := k
 refine ⟨vs, h1.keep fun b s e1 e2 => ?_, h2.keep hk⟩
 rcases h1.2 with ⟨z1, _⟩ | ⟨b2, s2, z1, z2, z3, _⟩
 ·rw [z1] at e1; cases e1
 ·rw [z1] at e1
  simp only [Value.slice.injEq, Option.some.injEq, Addr.mk.injEq] at e1
  exact hk b _ (by omega) e2
theorem PermsP.look {h : List O} {lo n : Nat} {v : Value} (k : PermsP h lo n v) : ∃ a, v = .slice a (permL n).length (permL n).length ∧ ∀ q, q < (permL n).length → ∃ b b', a = some ⟨b, 0, none⟩ ∧ lo ≤ b ∧ rdO h[b]? q = some (.slice (some ⟨b', 0, none⟩) n n) ∧ lo ≤ b' ∧ h[b']? = some (.cells (intsC (nthR (permL n) q)) 3 (some 1)) := by
 obtain ⟨vs, ⟨h1, h2⟩, h3⟩ := k
 rcases h2 with ⟨rfl, h0⟩ | ⟨b, s, rfl, hb, hc, _⟩
 ·exact ⟨none, by rw [h0], fun q hq => by omega⟩
 ·refine ⟨_, rfl, fun q hq => ?_⟩
  obtain ⟨b', r1, r2, r3⟩ := h3 q hq
  exact ⟨b, b', rfl, hb, by rw [hc]; exact r1, r2, r3⟩
variable {E : Env} (hE : OE E)
include hE
theorem permutations_ {h0 : List O} {n : Nat} (hn : 1 ≤ n ∧ n ≤ 6) :
  DC E 132 [.int .i64 n] ⟨h0, h0.length⟩ fun o st' => ∃ v, o = .ret v ∧ Sub h0 st'.h ∧ h0.length ≤ st'.fl ∧ PermsP st'.h h0.length n v := by
 refine hE.fnC (body := rb132) rfl ?_
 unfold rb132
 have e1 : (n : Int) * 8 ≤ 140737488355328 := by omega
 have e2 : (n : Int) < 4611686018427387904 := by omega
 have hrep : rep n [Value.int .i64 0] = intsC (List.replicate n 0) := by simp [rep, intsC]
 have hb1 : one1 (.func (.func 186) #[] #[.pointer (some ⟨h0.length, 0, none⟩), .pointer (some ⟨h0.length + 1, 0, none⟩), .pointer (some ⟨h0.length + 2, 0, none⟩)]) = true := rfl
 have hb2 : (Value.func (.func 186) #[] #[.pointer (some ⟨h0.length, 0, none⟩), .pointer (some ⟨h0.length + 1, 0, none⟩), .pointer (some ⟨h0.length + 2, 0, none⟩)]).cells = #[.func (.func 186) #[] #[.pointer (some ⟨h0.length, 0, none⟩), .pointer (some ⟨h0.length + 1, 0, none⟩), .pointer (some ⟨h0.length + 2, 0, none⟩)]] := rfl
 obtain ⟨H, hH⟩ : ∃ H, H = h0 ++ [O.cells [.int .i64 n] 3 (some 0), .cells [.slice none 0 0] 48 (some 0), .cells [visV h0.length (h0.length + 1) (h0.length + 2)] 226 (some 0), .cells (intsC (List.replicate n 0)) 3 (some 0)] := ⟨_, rfl⟩
 have hlH : H.length = h0.length + 4 := by rw [hH]; simp
 have q0 : H[h0.length]? = some (.cells [.int .i64 n] 3 (some 0)) := by rw [hH, app_at0]; rfl
 have q1 : H[h0.length + 1]? = some (.cells [.slice none 0 0] 48 (some 0)) := by rw [hH, app_at]; rfl
 have q2 : H[h0.length + 2]? = some (.cells [visV h0.length (h0.length + 1) (h0.length + 2)] 226 (some 0)) := by rw [hH, app_at]; rfl
 have q3 : H[h0.length + 3]? = some (.cells (intsC (List.replicate n 0)) 3 (some 0)) := by rw [hH, app_at]; rfl
 have hpow : n ^ n ≤ 46656 := by
  have h1 : n ^ n ≤ 6 ^ n := Nat.pow_le_pow_left hn.2 n
  have h2 : 6 ^ n ≤ 6 ^ 6 := Nat.pow_le_pow_right (by omega) hn.2
  omega
 have hv := visit_ hE (n := n) (lo := h0.length + 4) (base := h0.length) (B := h0.length + 3) (pn := h0.length) (po := h0.length + 1) (pv := h0.length + 2) hn.2 (by omega) (by omega) (by omega) (by omega) (by omega) (by omega) (by omega) (by omega) (by omega) (by omega) (by omega) (by omega)
  n (h := H) (f := []) (Ls := []) (by simp) (fun y hy => by simp at hy) (by omega) (by simp; omega) q0 q2
  ⟨⟨_, q3, by simp, by simp⟩, ⟨.slice none 0 0, [], q1, OwnS.nil _ _ _ _, fun q hq => by simp at hq⟩, by omega⟩
 simp only [visV] at hH
 simp at hv
 simp [e1, e2, hrep, wrN_at, set_at, hb1, hb2, rd_at, rd_at0, bit, List.append_assoc, ← hH, ← hlH]
 refine hv.imp ?_
 rintro o ⟨h4, f4⟩ ⟨rfl, r1, r2, r3, r4⟩
 simp only at r1 r2 r3 r4
 obtain ⟨ov, vs, y1, y2, y3⟩ := r4.out
 have hjf : ∃ f5, joined ⟨H, h0.length⟩ ⟨h4, f4⟩ = ⟨h4, f5⟩ ∧ h0.length ≤ f5 := by
  simp only [joined]
  by_cases c : f4 < H.length
  ·rw [if_pos c]; exact ⟨_, rfl, by omega⟩
  ·rw [if_neg c]; exact ⟨_, rfl, by omega⟩
 obtain ⟨f5, hj5, hj6⟩ := hjf
 simp [hj5, bit, rd_def, y1, endK_normal]
 unfold pairQ back
 have hP : PermsP h4 h0.length n ov := by
  refine ⟨vs, ?_, fun q hq => ?_⟩
  ·obtain ⟨z1, z2⟩ := y2
   refine ⟨z1, ?_⟩
   rcases z2 with z2 | ⟨b, s, a1, a2, a3⟩
   ·exact .inl z2
   ·exact .inr ⟨b, s, a1, by omega, a3⟩
  ·obtain ⟨b, a1, a2, a3⟩ := y3 q hq
   exact ⟨b, a1, by omega, a3⟩
 split
 ·rename_i hc
  refine ⟨ov, rfl, Sub.refl _, Nat.le_refl _, ?_⟩
  obtain ⟨a, hov, _⟩ := hP.look
  have hfl : flat ov = true := by
   rw [hov] at hc ⊢
   simp [Out.scalar, scalar, flat1] at hc
   exact hc.1
  have hl0 := flat_len hov hfl
  refine ⟨vs, ⟨y2.1, ?_⟩, fun q hq => by omega⟩
  rcases y2.2 with ⟨z1, z2⟩ | ⟨b, s, a1, a2, a3, a4⟩
  ·exact .inl ⟨z1, z2⟩
  ·rw [a1] at hfl; simp [flat] at hfl
 ·exact ⟨ov, rfl, fun b o hb => by
   have := (List.getElem?_eq_some_iff.1 hb).1
   exact r3 b o (by omega) (by rw [hH]; exact app_of hb _) (by omega) (by omega), hj6, hP⟩
end Go.Proofs.Ytjlkndkedknocaa
namespace Go.Proofs.Ytjlkndkedknocaa
open Go Go.Ai
attribute [local instance] Classical.propDecidable
structure AskI (h : List O) (pI pK pN n : Nat) (A B : List (List Int)) : Prop where
 vI : ∃ v, h[pI]? = some (.cells [v] 48 (some 0)) ∧ Mat h v A
 vK : ∃ v, h[pK]? = some (.cells [v] 48 (some 0)) ∧ Mat h v B
 vN : h[pN]? = some (.cells [.int .i64 n] 3 (some 0))
 rA : RowsOk n A
 rB : RowsOk n B
 len : B.length = A.length
 small : A.length ≤ 100000 ∧ n ≤ 100000
def askV (pI pK pN : Nat) : Value := .func (.func 191) #[] #[.pointer (some ⟨pI, 0, none⟩), .pointer (some ⟨pK, 0, none⟩), .pointer (some ⟨pN, 0, none⟩)]
variable {E : Env} (hE : OE E)
include hE
theorem asks_ {h : List O} {pI pK pN n : Nat} {A B : List (List Int)} {vw : Value} {w : List Int} (hI : AskI h pI pK pN n A B) (hw : Ints h vw w) (hL : LetOk A.length w) :
  DR E 191 [vw, .pointer (some ⟨pI, 0, none⟩), .pointer (some ⟨pK, 0, none⟩), .pointer (some ⟨pN, 0, none⟩)] ⟨h, h.length⟩ (.ret (.bool (!decide (TrivL A B w n)))) ⟨h, h.length⟩ := by
 refine hE.fn (body := rb191) rfl ?_
 unfold rb191
 obtain ⟨v1, e1, m1⟩ := hI.vI
 obtain ⟨v2, e2, m2⟩ := hI.vK
 have e3 := hI.vN
 have ht := isTrivial_ hE m1 m2 hw hI.rA hI.rB hI.len hL hI.small
 simp [rd_def, e1, e2, e3, DC_of ht, endK_ret]
theorem indexF_ {h : List O} {pI pK pN n : Nat} {A B R : List (List Int)} {v : Value} (hI : AskI h pI pK pN n A B) (hR : Mat h v R) (hL : ∀ i, i < R.length → LetOk A.length (nthR R i)) (hlt : R.length < 1000000) :
  DR E 228 [v, askV pI pK pN] ⟨h, h.length⟩ (.ret (.int .i64 (firstI (fun i => !decide (TrivL A B (nthR R i) n)) R.length))) ⟨h, h.length⟩ := by
 refine hE.fn (body := rb228) rfl ?_
 unfold rb228
 obtain ⟨a, b, o, c, vs, rfl, ha, hrd⟩ := hR.at
 simp
 refine DW_loop (fun kk fr st => ∃ (i : Nat), i + kk = R.length ∧ st = ⟨h, h.length⟩ ∧ (∀ j, j < i → TrivL A B (nthR R j) n) ∧ get fr 0 = .slice a R.length c ∧ get fr 1 = askV pI pK pN ∧ get fr 7 = .int .i64 R.length ∧ get fr 8 = .int .i64 i) ?_ (k := R.length) ?_
 ·rintro kk fr st ⟨i, hik, rfl, hm, g0, g1, g7, g8⟩
  by_cases hi : i < R.length
  ·have hw : IntKind.i64.wrap ((i : Int) + 1) = (i : Int) + 1 := by rw [w64_id] <;> omega
   obtain rfl := ha (by omega)
   obtain ⟨hr1, hr2⟩ := hrd i hi
   have hq := asks_ hE hI hr2 (hL i hi)
   by_cases hy : TrivL A B (nthR R i) n
   ·simp [g0, g1, g7, g8, hi, rd_def, hr1, askV, DC_of hq, hy, hw]
    refine ⟨kk - 1, by omega, i + 1, by omega, fun j hj => ?_, by omega⟩
    by_cases e : j = i
    ·rw [e]; exact hy
    ·exact hm j (by omega)
   ·have hf : firstI (fun i => !decide (TrivL A B (nthR R i) n)) R.length = i := firstI_found hi (by simp [hy]) (fun j hj => by simp [hm j hj])
    simp [g0, g1, g7, g8, hi, rd_def, hr1, askV, DC_of hq, hy, endK_ret]
    exact hf.symm
  ·have hin : i = R.length := by omega
   subst hin
   have hf : firstI (fun i => !decide (TrivL A B (nthR R i) n)) R.length = -1 := firstI_none (fun j hj => by simp [hm j hj])
   simp [g0, g1, g7, g8, endK_ret]
   exact hf.symm
 ·exact ⟨0, by omega, rfl, fun j h => by omega, by simp⟩
theorem containsF_ {h : List O} {pI pK pN n : Nat} {A B R : List (List Int)} {v : Value} (hI : AskI h pI pK pN n A B) (hR : Mat h v R) (hL : ∀ i, i < R.length → LetOk A.length (nthR R i)) (hlt : R.length < 1000000) :
  DR E 190 [v, askV pI pK pN] ⟨h, h.length⟩ (.ret (.bool (!decide (∀ i, i < R.length → TrivL A B (nthR R i) n)))) ⟨h, h.length⟩ := by
 refine hE.fn (body := rb190) rfl ?_
 unfold rb190
 have hi := indexF_ hE hI hR hL hlt
 have hiff : (0 ≤ firstI (fun i => !decide (TrivL A B (nthR R i) n)) R.length) ↔ ¬ ∀ i, i < R.length → TrivL A B (nthR R i) n := by
  rcases firstI_cases (fun i => !decide (TrivL A B (nthR R i) n)) R.length with ⟨i, h1, h2, _, h3⟩ | ⟨h1, h2⟩
  ·rw [h3]
   have : ¬ TrivL A B (nthR R i) n := by simpa using h2
   exact ⟨fun _ hall => this (hall i h1), fun _ => by omega⟩
  ·rw [h2]
   refine ⟨fun h => by omega, fun h => absurd (fun i hi => ?_) h⟩
   have := h1 i hi
   simpa using this
 by_cases hall : ∀ i, i < R.length → TrivL A B (nthR R i) n
 ·have h0 : ¬ 0 ≤ firstI (fun i => !decide (TrivL A B (nthR R i) n)) R.length := fun h => hiff.1 h hall
  rw [decide_eq_true hall]
  generalize firstI (fun i => !decide (TrivL A B (nthR R i) n)) R.length = z at hi h0
  simp [DC_of hi, endK_ret, h0]
 ·have h0 := hiff.2 hall
  rw [decide_eq_false hall]
  generalize firstI (fun i => !decide (TrivL A B (nthR R i) n)) R.length = z at hi h0
  simp [DC_of hi, endK_ret, h0]
end Go.Proofs.Ytjlkndkedknocaa
namespace Go.Ai
attribute [local instance] Classical.propDecidable
def lastW (w : List Int) : Nat := w.foldl (fun m x => max m x.natAbs) 0
def readyL (rels : List (List Int)) (j : Nat) : List (List Int) := rels.filter fun r => lastW r == j
def GoodA (n : Nat) (rels A : List (List Int)) : Prop := ∀ i, i < (readyL rels A.length).length → TrivL A (A.map invL) (nthR (readyL rels A.length) i) n
def sumNat (f : Nat → Nat) : Nat → Nat
 | 0 => 0
 | i + 1 => sumNat f i + f i
theorem sumNat_le {f : Nat → Nat} {M : Nat} : ∀ {n : Nat}, (∀ i, i < n → f i ≤ M) → sumNat f n ≤ n * M := by
 intro n
 induction n with
 | zero => intro _; simp [sumNat]
 | succ n ih =>
  intro h
  have h1 := ih fun i hi => h i (by omega)
  have h2 := h n (by omega)
  simp only [sumNat, Nat.succ_mul]
  omega
noncomputable def cntV (n : Nat) (P rels : List (List Int)) : Nat → List (List Int) → Nat
 | 0, _ => 1
 | m + 1, im => sumNat (fun q => if GoodA n rels (im ++ [nthR P q]) then cntV n P rels m (im ++ [nthR P q]) else 0) P.length
noncomputable def cntI (n : Nat) (P rels : List (List Int)) (m : Nat) (im : List (List Int)) (i : Nat) : Nat := sumNat (fun q => if GoodA n rels (im ++ [nthR P q]) then cntV n P rels m (im ++ [nthR P q]) else 0) i
theorem cntV_le (n : Nat) (P rels : List (List Int)) : ∀ m im, cntV n P rels m im ≤ P.length ^ m := by
 intro m
 induction m with
 | zero => intro im; simp [cntV]
 | succ m ih =>
  intro im
  have := sumNat_le (f := fun q => if GoodA n rels (im ++ [nthR P q]) then cntV n P rels m (im ++ [nthR P q]) else 0) (M := P.length ^ m) (n := P.length) fun q _ => by
   split
   ·exact ih _
   ·omega
  rw [Nat.pow_succ, Nat.mul_comm]
  exact this
theorem cntI_le (n : Nat) (P rels : List (List Int)) (m : Nat) (im : List (List Int)) (i : Nat) : cntI n P rels m im i ≤ i * P.length ^ m := sumNat_le fun q _ => by
 split
 ·exact cntV_le _ _ _ _ _
 ·omega
theorem slice_pre {h : List O} {B gl c g : Nat} {cs : List Value} {e : TypeId} (hb : h[B]? = some (.cells cs e (some 0))) (hg : g ≤ c) : sliceV h 1 (.slice (some ⟨B, 0, none⟩) gl c) none (some (.int .i64 g)) none = some (.slice (some ⟨B, 0, none⟩) g c) := by
 have h1 : (g : Int) ≤ c := by omega
 simp [sliceV, mxB, hiB, loB, bound, sliceA, tagOk, hb, h1, hg]
theorem lastW_le {w : List Int} {y : Int} (hy : y ∈ w) : y.natAbs ≤ lastW w := by
 have key : ∀ (l : List Int) (m : Nat), m ≤ l.foldl (fun m x => max m x.natAbs) m ∧ ∀ y ∈ l, y.natAbs ≤ l.foldl (fun m x => max m x.natAbs) m := by
  intro l
  induction l with
  | nil => intro m; exact ⟨Nat.le_refl _, fun y hy => by simp at hy⟩
  | cons z l ih =>
   intro m
   obtain ⟨h1, h2⟩ := ih (max m z.natAbs)
   refine ⟨by simp only [List.foldl_cons]; omega, fun y hy => ?_⟩
   simp only [List.foldl_cons]
   rcases List.mem_cons.1 hy with rfl | hy
   ·omega
   ·exact h2 y hy
 exact (key w 0).2 y hy
end Go.Ai
namespace Go.Proofs.Ytjlkndkedknocaa
open Go Go.Ai
attribute [local instance] Classical.propDecidable
def SubX (pI pK B1 B2 pO : Nat) (h h' : List O) : Prop := ∀ (b : Nat) (o : O), h[b]? = some o → b ≠ pI → b ≠ pK → b ≠ B1 → b ≠ B2 → b ≠ pO → h'[b]? = some o
theorem SubX.refl (pI pK B1 B2 pO : Nat) (h : List O) : SubX pI pK B1 B2 pO h h := fun _ _ k _ _ _ _ _ => k
theorem SubX.trans {pI pK B1 B2 pO : Nat} {a b c : List O} (h : SubX pI pK B1 B2 pO a b) (k : SubX pI pK B1 B2 pO b c) : SubX pI pK B1 B2 pO a c := fun x o e h1 h2 h3 h4 h5 => k x o (h x o e h1 h2 h3 h4 h5) h1 h2 h3 h4 h5
theorem SubX.app {pI pK B1 B2 pO : Nat} {h h' : List O} (k : SubX pI pK B1 B2 pO h h') (l : List O) : SubX pI pK B1 B2 pO h (h' ++ l) := fun b o e h1 h2 h3 h4 h5 => app_of (k b o e h1 h2 h3 h4 h5) l
theorem SubX.set {pI pK B1 B2 pO : Nat} {h h' : List O} (k : SubX pI pK B1 B2 pO h h') {b : Nat} (hb : b = pI ∨ b = pK ∨ b = B1 ∨ b = B2 ∨ b = pO) (o : O) : SubX pI pK B1 B2 pO h (h'.set b o) := fun c o' e h1 h2 h3 h4 h5 => set_ne (k c o' e h1 h2 h3 h4 h5) (by omega)
def RowsB (h : List O) (B c n pO : Nat) (A : List (List Int)) : Prop :=
 ∃ cs, h[B]? = some (.cells cs 34 (some 0)) ∧ cs.length = c ∧ ∀ q, q < A.length → ∃ b s, cs[q]? = some (.slice (some ⟨b, 0, none⟩) n n) ∧ b ≠ pO ∧ h[b]? = some (.cells (intsC (nthR A q)) 3 (some s))
theorem RowsB.mat {h : List O} {B c n pO : Nat} {A : List (List Int)} (k : RowsB h B c n pO A) (hA : ∀ q, q < A.length → PermL n (nthR A q)) (hs : A.length ≤ 1000 ∧ n ≤ 1000) : Mat h (.slice (some ⟨B, 0, none⟩) A.length c) A := by
 obtain ⟨cs, h1, h2, h3⟩ := k
 refine ⟨_, B, 0, c, fun q => (cs[q]?).getD undef, rfl, fun _ => rfl, fun q hq => ?_, by omega⟩
 obtain ⟨b, s, r1, _, r2⟩ := h3 q hq
 have hp := hA q hq
 refine ⟨by rw [rd_def, h1, Nat.zero_add]; simp [r1], ?_⟩
 simp only [r1, Option.getD_some]
 refine ⟨_, b, 0, n, by rw [hp.len], fun _ => rfl, fun j hj => by rw [rd_def, r2, Nat.zero_add]; exact intsC_get hj, fun j => ?_, by rw [hp.len]; omega⟩
 by_cases hj : j < (nthR A q).length
 ·have := hp.rng j hj
  constructor <;> omega
 ·rw [nth_ge (by omega)]; constructor <;> omega
structure DynI (h : List O) (pI pK B1 B2 pO n gens gl : Nat) (c : Int) (A : List (List Int)) : Prop where
 i : h[pI]? = some (.cells [.slice (some ⟨B1, 0, none⟩) gl gens] 48 (some 0))
 k : h[pK]? = some (.cells [.slice (some ⟨B2, 0, none⟩) gl gens] 48 (some 0))
 b1 : RowsB h B1 gens n pO A
 b2 : RowsB h B2 gens n pO (invA A)
 o : h[pO]? = some (.cells [.int .i64 c] 3 (some 0))
theorem nthR_snoc {A : List (List Int)} {f : List Int} {q : Nat} : nthR (A ++ [f]) q = if q < A.length then nthR A q else if q = A.length then f else [] := by
 unfold nthR
 by_cases h : q < A.length
 ·rw [if_pos h]; simp [List.getD_eq_getElem?_getD, List.getElem?_append_left h]
 ·rw [if_neg h, List.getD_eq_getElem?_getD, List.getElem?_append_right (by omega)]
  by_cases e : q = A.length
  ·rw [if_pos e, e]; simp
  ·rw [if_neg e, List.getElem?_eq_none (by simp; omega)]; rfl
theorem RowsB.add {h H : List O} {B c n pO b s : Nat} {A : List (List Int)} {f : List Int} {cs : List Value} (hc : h[B]? = some (.cells cs 34 (some 0))) (hl : cs.length = c) (hr : ∀ q, q < A.length → ∃ b s, cs[q]? = some (.slice (some ⟨b, 0, none⟩) n n) ∧ b ≠ pO ∧ h[b]? = some (.cells (intsC (nthR A q)) 3 (some s)))
  (hA : A.length < c) (hH : H[B]? = some (.cells (cs.set A.length (.slice (some ⟨b, 0, none⟩) n n)) 34 (some 0))) (hk : ∀ b' cs' s', h[b']? = some (.cells cs' 3 (some s')) → b' ≠ pO → H[b']? = some (.cells cs' 3 (some s')))
  (hb : b ≠ pO) (hf : H[b]? = some (.cells (intsC f) 3 (some s))) : RowsB H B c n pO (A ++ [f]) := by
 refine ⟨_, hH, by simp [hl], fun q hq => ?_⟩
 simp at hq
 rw [nthR_snoc]
 by_cases e : q < A.length
 ·rw [if_pos e]
  obtain ⟨b1, s1, r1, r2, r3⟩ := hr q e
  exact ⟨b1, s1, by rw [List.getElem?_set_ne (by omega)]; exact r1, r2, hk _ _ _ r3 r2⟩
 ·have eq : q = A.length := by omega
  rw [if_neg e, if_pos eq, eq]
  exact ⟨b, s, by rw [List.getElem?_set_self (by omega)], hb, hf⟩
theorem RowsB.keep {h h' : List O} {B c n pO : Nat} {A : List (List Int)} (k : RowsB h B c n pO A) (hB : ∀ cs, h[B]? = some (.cells cs 34 (some 0)) → h'[B]? = some (.cells cs 34 (some 0))) (hk : ∀ b' cs' s', h[b']? = some (.cells cs' 3 (some s')) → b' ≠ pO → h'[b']? = some (.cells cs' 3 (some s'))) : RowsB h' B c n pO A := by
 obtain ⟨cs, h1, h2, h3⟩ := k
 refine ⟨cs, hB _ h1, h2, fun q hq => ?_⟩
 obtain ⟨b, s, r1, r2, r3⟩ := h3 q hq
 exact ⟨b, s, r1, r2, hk _ _ _ r3 r2⟩
theorem RowsB.less {h : List O} {B c n pO : Nat} {A : List (List Int)} {f : List Int} (k : RowsB h B c n pO (A ++ [f])) : RowsB h B c n pO A := by
 obtain ⟨cs, h1, h2, h3⟩ := k
 refine ⟨cs, h1, h2, fun q hq => ?_⟩
 obtain ⟨b, s, r1, r2, r3⟩ := h3 q (by simp; omega)
 rw [nthR_snoc, if_pos hq] at r3
 exact ⟨b, s, r1, r2, r3⟩
theorem invA_snoc (A : List (List Int)) (f : List Int) : invA (A ++ [f]) = invA A ++ [invL f] := by simp [invA]
def visV2 (pI pG pY pA pK pR pN pV : Nat) : Value := .func (.func 189) #[] #[.pointer (some ⟨pI, 0, none⟩), .pointer (some ⟨pG, 0, none⟩), .pointer (some ⟨pY, 0, none⟩), .pointer (some ⟨pA, 0, none⟩), .pointer (some ⟨pK, 0, none⟩), .pointer (some ⟨pR, 0, none⟩), .pointer (some ⟨pN, 0, none⟩), .pointer (some ⟨pV, 0, none⟩)]
structure FixI (E : Env) (h : List O) (aa : Option Addr) (pG pY pA pR pN pV pO k n gens : Nat) (vV : Value) (rels : List (List Int)) : Prop where
 g : ∃ vr, h[pG]? = some (.cells [.int .i64 gens, vr] 81 (some 0))
 y : h[pY]? = some (.cells [tok k] 219 (some 0))
 a : h[pA]? = some (.cells [.slice aa (permL n).length (permL n).length] 48 (some 0))
 rows : ∀ q, q < (permL n).length → ∃ b b', aa = some ⟨b, 0, none⟩ ∧ rdO h[b]? q = some (.slice (some ⟨b', 0, none⟩) n n) ∧ b' ≠ pO ∧ h[b']? = some (.cells (intsC (nthR (permL n) q)) 3 (some 1))
 r : ∃ Rb rv, h[pR]? = some (.cells [.slice (some ⟨Rb, 0, none⟩) (gens + 1) (gens + 1)] 129 (some 0)) ∧ h[Rb]? = some (.cells rv 48 (some 0)) ∧ ∀ j, j < gens + 1 → ∃ v, rv[j]? = some v ∧ Mat h v (readyL rels j)
 n_ : h[pN]? = some (.cells [.int .i64 n] 3 (some 0))
 v : h[pV]? = some (.cells [vV] 25 (some 0))
 call : ∀ (v : Value) (c : Int), h[pO]? = some (.cells [.int .i64 c] 3 (some 0)) → 0 ≤ c ∧ c ≤ 10000000000 → DR E (yB + k) [v] ⟨h, h.length⟩ (.ret (.bool true)) ⟨h.set pO (.cells [.int .i64 (c + 1)] 3 (some 0)), min pO k⟩
end Go.Proofs.Ytjlkndkedknocaa
namespace Go.Proofs.Ytjlkndkedknocaa
open Go Go.Ai
attribute [local instance] Classical.propDecidable
variable {E : Env} (hE : OE E)
include hE
theorem visit2_ {hV : List O} {aa : Option Addr} {pI pG pY pA pK pR pN pV pO B1 B2 k n gens base : Nat} {rels : List (List Int)} (hn : 1 ≤ n ∧ n ≤ 6) (hgens : gens ≤ 600)
  (hPerm : ∀ q, q < (permL n).length → PermL n (nthR (permL n) q)) (hlet : ∀ r ∈ rels, LetOk (lastW r) r) (hrels : rels.length < 1000000)
  (hfix : ∀ h, SubX pI pK B1 B2 pO hV h → hV.length ≤ h.length → FixI E h aa pG pY pA pR pN pV pO k n gens (visV2 pI pG pY pA pK pR pN pV) rels)
  (hb : base ≤ pI ∧ base ≤ pK ∧ base ≤ B1 ∧ base ≤ B2 ∧ base ≤ pO ∧ base ≤ k) (hl : pI < hV.length ∧ pK < hV.length ∧ B1 < hV.length ∧ B2 < hV.length ∧ pO < hV.length ∧ k < hV.length) (hbl : base ≤ hV.length)
  (d1 : pI ≠ pK) (d2 : pI ≠ B1) (d3 : pI ≠ B2) (d4 : pI ≠ pO) (d5 : pK ≠ B1) (d6 : pK ≠ B2) (d7 : pK ≠ pO) (d8 : B1 ≠ B2) (d9 : B1 ≠ pO) (d10 : B2 ≠ pO) :
  ∀ (m : Nat) {h : List O} {im : List (List Int)} {c : Int}, im.length + m = gens → (∀ q, q < im.length → PermL n (nthR im q)) → SubX pI pK B1 B2 pO hV h → hV.length ≤ h.length → DynI h pI pK B1 B2 pO n gens im.length c im → 0 ≤ c → c + ((permL n).length ^ m : Nat) ≤ 10000000000 →
   DC E 189 [.pointer (some ⟨pI, 0, none⟩), .pointer (some ⟨pG, 0, none⟩), .pointer (some ⟨pY, 0, none⟩), .pointer (some ⟨pA, 0, none⟩), .pointer (some ⟨pK, 0, none⟩), .pointer (some ⟨pR, 0, none⟩), .pointer (some ⟨pN, 0, none⟩), .pointer (some ⟨pV, 0, none⟩)] ⟨h, h.length⟩ fun o st' =>
    o = .ret (.bool true) ∧ base ≤ st'.fl ∧ st'.fl < hV.length ∧ h.length ≤ st'.h.length ∧ SubX pI pK B1 B2 pO h st'.h ∧ DynI st'.h pI pK B1 B2 pO n gens im.length (c + cntV n (permL n) rels m im) im := by
 intro m
 induction m with
 | zero =>
  intro h im c hm him hs hlen hD hc0 hc1
  refine hE.fnC (body := rb189) rfl ?_
  unfold rb189
  have hF := hfix h hs hlen
  obtain ⟨vr, fg⟩ := hF.g
  have fy := hF.y
  have e1 := hD.i
  have hgl : im.length = gens := by omega
  rw [hgl] at e1
  have hcall := hF.call (.slice (some ⟨B1, 0, none⟩) gens gens) c hD.o ⟨hc0, by omega⟩
  have hfl : min pO k < h.length := by omega
  have hjd : joined ⟨h, h.length⟩ ⟨h.set pO (.cells [.int .i64 (c + 1)] 3 (some 0)), min pO k⟩ = ⟨h.set pO (.cells [.int .i64 (c + 1)] 3 (some 0)), min pO k⟩ := by
   simp only [joined]
   rw [if_pos hfl]
   congr 1
   omega
  simp [rd_def, e1, fg, fy, tok, DC_of hcall, hjd, endK_ret]
  unfold pairQ back
  rw [if_neg (by simp; omega)]
  refine ⟨rfl, by simp only; omega, by simp only; omega, by simp, (SubX.refl _ _ _ _ _ _).set (by omega) _, set_ne hD.i d4, set_ne hD.k d7, ?_, ?_, ?_⟩
  ·obtain ⟨cs, r1, r2, r3⟩ := hD.b1
   exact ⟨cs, set_ne r1 d9, r2, fun q hq => by
    obtain ⟨b, s, y1, y2, y3⟩ := r3 q hq
    exact ⟨b, s, y1, y2, set_ne y3 y2⟩⟩
  ·obtain ⟨cs, r1, r2, r3⟩ := hD.b2
   exact ⟨cs, set_ne r1 d10, r2, fun q hq => by
    obtain ⟨b, s, y1, y2, y3⟩ := r3 q hq
    exact ⟨b, s, y1, y2, set_ne y3 y2⟩⟩
  ·simp only [cntV]
   exact set_self hD.o
 | succ m ih =>
  intro h im c hm him hs hlen hD hc0 hc1
  refine hE.fnC (body := rb189) rfl ?_
  unfold rb189
  have hF := hfix h hs hlen
  obtain ⟨vr, fg⟩ := hF.g
  have e1 := hD.i
  obtain ⟨g, hg⟩ : ∃ g, g = im.length := ⟨_, rfl⟩
  rw [← hg] at e1 hm him ⊢
  have hgn : g < gens := by omega
  have hgne : ¬ g = gens := by omega
  have hgne' : ¬ (g : Int) = gens := by omega
  have fa := hF.a
  simp [rd_def, e1, fg, hgne, hgne', fa]
  have hcv : cntV n (permL n) rels (m + 1) im = cntI n (permL n) rels m im (permL n).length := rfl
  rw [hcv]
  refine DW_loop (fun kk fr st => ∃ (i : Nat) (h' : List O) (f' gl : Nat), i + kk = (permL n).length ∧ st = ⟨h', f'⟩ ∧ base ≤ f' ∧ f' ≤ h.length ∧ h.length ≤ h'.length ∧ SubX pI pK B1 B2 pO h h' ∧ DynI h' pI pK B1 B2 pO n gens gl (c + cntI n (permL n) rels m im i) im ∧
   get fr 0 = .pointer (some ⟨pI, 0, none⟩) ∧ get fr 4 = .pointer (some ⟨pK, 0, none⟩) ∧ get fr 5 = .pointer (some ⟨pR, 0, none⟩) ∧ get fr 6 = .pointer (some ⟨pN, 0, none⟩) ∧ get fr 7 = .pointer (some ⟨pV, 0, none⟩) ∧ get fr 9 = .int .i64 g ∧ get fr 22 = .slice aa (permL n).length (permL n).length ∧ get fr 23 = .int .i64 (permL n).length ∧ get fr 24 = .int .i64 i) ?_ (k := (permL n).length) ?_
  ·rintro kk fr st ⟨i, h', f', gl, hik, rfl, hf1, hf2, hlen', hX, hD', g0, g4, g5, g6, g7, g9, g22, g23, g24⟩
   have hX' : SubX pI pK B1 B2 pO hV h' := hs.trans hX
   have i1 := hD'.i
   have i2 := hD'.k
   obtain ⟨c1, x1, x2, x3⟩ := hD'.b1
   obtain ⟨c2, y1, y2, y3⟩ := hD'.b2
   by_cases hi : i < (permL n).length
   ·have hw : IntKind.i64.wrap ((i : Int) + 1) = (i : Int) + 1 := by
     rw [w64_id]
     ·omega
     ·have := visL_le n n []
      have h1 : n ^ n ≤ 6 ^ n := Nat.pow_le_pow_left hn.2 n
      have h2 : 6 ^ n ≤ 6 ^ 6 := Nat.pow_le_pow_right (by omega) hn.2
      have h3 : (permL n).length ≤ n ^ n := this
      omega
    obtain ⟨b, b', rfl, r1, r2, r3⟩ := (hfix h' hX' (by omega)).rows i hi
    obtain ⟨f, hf⟩ : ∃ f, f = nthR (permL n) i := ⟨_, rfl⟩
    have hfp : PermL n f := by rw [hf]; exact hPerm i hi
    rw [← hf] at r3
    have hbB : ∀ (q : Nat) (cs cs' : List Value) (s s' : Option Nat) (e : TypeId), h'[q]? = some (.cells cs 3 s) → ∀ p, h'[p]? = some (.cells cs' e s') → e ≠ 3 → q ≠ p := fun q cs cs' s s' e hq p hp hne hqp => by
     subst hqp; rw [hp] at hq; simp at hq; exact hne hq.2.1
    have n1 : b' ≠ B1 := hbB _ _ _ _ _ _ r3 _ x1 (by decide)
    have n2 : b' ≠ B2 := hbB _ _ _ _ _ _ r3 _ y1 (by decide)
    have n3 : b' ≠ pI := hbB _ _ _ _ _ _ r3 _ i1 (by decide)
    have n4 : b' ≠ pK := hbB _ _ _ _ _ _ r3 _ i2 (by decide)
    have sl1 := slice_pre (gl := gl) (c := gens) (g := g) x1 (by omega)
    have lB1 := (List.getElem?_eq_some_iff.1 x1).1
    have lB2 := (List.getElem?_eq_some_iff.1 y1).1
    have lpI := (List.getElem?_eq_some_iff.1 i1).1
    have lpK := (List.getElem?_eq_some_iff.1 i2).1
    have lb' := (List.getElem?_eq_some_iff.1 r3).1
    have lpO := (List.getElem?_eq_some_iff.1 hD'.o).1
    obtain ⟨H1, hH1⟩ : ∃ H1, H1 = h' ++ [O.cells [.slice (some ⟨b', 0, none⟩) n n] 34 (some 0)] := ⟨_, rfl⟩
    have l1 : H1.length = h'.length + 1 := by rw [hH1]; simp
    have K1 : ∀ (b : Nat) (o : O), h'[b]? = some o → H1[b]? = some o := fun b o hb => by rw [hH1]; exact app_of hb _
    have hx1 : rdN H1 h'.length 0 1 = some [.slice (some ⟨b', 0, none⟩) n n] := by rw [hH1]; simp [rdN_at0]
    have happ1 := append_fit (el := 34) (bytes := 24) (k := g) (c := gens) (fl := f') (K1 _ _ x1) (by omega) (by omega) (by rfl) hx1
    obtain ⟨H2, hH2⟩ : ∃ H2, H2 = H1.set B1 (.cells (c1.set g (.slice (some ⟨b', 0, none⟩) n n)) 34 (some 0)) := ⟨_, rfl⟩
    rw [← hH2] at happ1
    have l2 : H2.length = h'.length + 1 := by rw [hH2, List.length_set, l1]
    have K2 : ∀ (b : Nat) (o : O), h'[b]? = some o → b ≠ B1 → H2[b]? = some o := fun b o hb hn => by rw [hH2]; exact set_ne (K1 _ _ hb) hn
    have r3' := K2 _ _ r3 n1
    have hInt : Ints H2 (.slice (some ⟨b', 0, none⟩) n n) f := by
     refine ⟨_, b', 0, n, by rw [hfp.len], fun _ => rfl, fun j hj => by rw [rd_def, r3', Nat.zero_add]; exact intsC_get hj, fun j => ?_, by rw [hfp.len]; omega⟩
     by_cases hj : j < f.length
     ·have := hfp.rng j hj
      constructor <;> omega
     ·rw [nth_ge (by omega)]; constructor <;> omega
    have hinv := inverse_ hE hInt (by rw [hfp.len]; exact hfp.rng) (by rw [hfp.len]; omega)
    rw [hfp.len] at hinv
    obtain ⟨H3, hH3⟩ : ∃ H3, H3 = H2 ++ [O.cells (intsC (invL f)) 3 (some 0)] := ⟨_, rfl⟩
    rw [← hH3] at hinv
    have l3 : H3.length = H2.length + 1 := by rw [hH3]; simp
    obtain ⟨H4, hH4⟩ : ∃ H4, H4 = H3 ++ [O.cells [.slice (some ⟨H2.length, 0, none⟩) n n] 34 (some 0)] := ⟨_, rfl⟩
    have l4 : H4.length = H3.length + 1 := by rw [hH4]; simp
    have K4 : ∀ (b : Nat) (o : O), h'[b]? = some o → b ≠ B1 → H4[b]? = some o := fun b o hb hn => by rw [hH4, hH3]; exact app_of (app_of (K2 _ _ hb hn) _) _
    have hx4 : rdN H4 H3.length 0 1 = some [.slice (some ⟨H2.length, 0, none⟩) n n] := by rw [hH4]; simp [rdN_at0]
    have happ2 := append_fit (el := 34) (bytes := 24) (k := g) (c := gens) (fl := min f' B1) (K4 _ _ y1 (Ne.symm d8)) (by omega) (by omega) (by rfl) hx4
    obtain ⟨H5, hH5⟩ : ∃ H5, H5 = H4.set B2 (.cells (c2.set g (.slice (some ⟨H2.length, 0, none⟩) n n)) 34 (some 0)) := ⟨_, rfl⟩
    rw [← hH5] at happ2
    have K5 : ∀ (b : Nat) (o : O), h'[b]? = some o → b ≠ B1 → b ≠ B2 → H5[b]? = some o := fun b o hb hn hn2 => by rw [hH5]; exact set_ne (K4 _ _ hb hn) hn2
    have j1 := K5 _ _ i1 d2 d3
    have j2 := K5 _ _ i2 d5 d6
    have i2' := K2 _ _ i2 d5
    have sl2 := slice_pre (gl := gl) (c := gens) (g := g) (K2 _ _ y1 (Ne.symm d8)) (by omega)
    obtain ⟨H6, hH6⟩ : ∃ H6, H6 = H5.set pI (.cells [.slice (some ⟨B1, 0, none⟩) (g + 1) gens] 48 (some 0)) := ⟨_, rfl⟩
    have j2' : H6[pK]? = some (.cells [.slice (some ⟨B2, 0, none⟩) gl gens] 48 (some 0)) := by rw [hH6]; exact set_ne j2 (Ne.symm d1)
    obtain ⟨H7, hH7⟩ : ∃ H7, H7 = H6.set pK (.cells [.slice (some ⟨B2, 0, none⟩) (g + 1) gens] 48 (some 0)) := ⟨_, rfl⟩
    have l7 : H7.length = h'.length + 3 := by rw [hH7, List.length_set, hH6, List.length_set, hH5, List.length_set]; omega
    have K7 : ∀ (b : Nat) (o : O), h'[b]? = some o → b ≠ pI → b ≠ pK → b ≠ B1 → b ≠ B2 → H7[b]? = some o := fun b o hb m1 m2 m3 m4 => by rw [hH7, hH6]; exact set_ne (set_ne (K5 _ _ hb m3 m4) m1) m2
    have hX7 : SubX pI pK B1 B2 pO h H7 := hX.trans fun b o hb m1 m2 m3 m4 _ => K7 b o hb m1 m2 m3 m4
    have hF7 := hfix H7 (hs.trans hX7) (by omega)
    have q1 : H7[pI]? = some (.cells [.slice (some ⟨B1, 0, none⟩) (g + 1) gens] 48 (some 0)) := by rw [hH7, hH6]; exact set_ne (set_self j1) d1
    have q2 : H7[pK]? = some (.cells [.slice (some ⟨B2, 0, none⟩) (g + 1) gens] 48 (some 0)) := by rw [hH7]; exact set_self j2'
    have q3 : H7[B1]? = some (.cells (c1.set g (.slice (some ⟨b', 0, none⟩) n n)) 34 (some 0)) := by
     rw [hH7, hH6, hH5, hH4, hH3]
     refine set_ne (set_ne (set_ne (app_of (app_of ?_ _) _) d8) (Ne.symm d2)) (Ne.symm d5)
     rw [hH2]; exact set_self (K1 _ _ x1)
    have q4 : H7[B2]? = some (.cells (c2.set g (.slice (some ⟨H2.length, 0, none⟩) n n)) 34 (some 0)) := by
     rw [hH7, hH6]
     refine set_ne (set_ne ?_ (Ne.symm d3)) (Ne.symm d6)
     rw [hH5]; exact set_self (K4 _ _ y1 (Ne.symm d8))
    have q5 : H7[H2.length]? = some (O.cells (intsC (invL f)) 3 (some 0)) := by
     rw [hH7, hH6, hH5, hH4]
     refine set_ne (set_ne (set_ne (app_of ?_ _) (by omega)) (by omega)) (by omega)
     rw [hH3, app_at0]; rfl
    have hkint : ∀ b' cs' s', h'[b']? = some (.cells cs' 3 (some s')) → b' ≠ pO → H7[b']? = some (.cells cs' 3 (some s')) := fun p cs' s' hp _ => K7 _ _ hp (hbB _ _ _ _ _ _ hp _ i1 (by decide)) (hbB _ _ _ _ _ _ hp _ i2 (by decide)) (hbB _ _ _ _ _ _ hp _ x1 (by decide)) (hbB _ _ _ _ _ _ hp _ y1 (by decide))
    have hiA : (invA im).length = g := by rw [invA_length]; exact hg.symm
    have R1 : RowsB H7 B1 gens n pO (im ++ [f]) := RowsB.add x1 x2 x3 (by omega) (by rw [← hg]; exact q3) hkint r2 (hkint _ _ _ r3 r2)
    have R2 : RowsB H7 B2 gens n pO (invA im ++ [invL f]) := RowsB.add y1 y2 y3 (by omega) (by rw [hiA]; exact q4) hkint (by omega) q5
    rw [← invA_snoc] at R2
    have hlen1 : (im ++ [f]).length = g + 1 := by simp; omega
    have hD7 : DynI H7 pI pK B1 B2 pO n gens (im ++ [f]).length (c + cntI n (permL n) rels m im i) (im ++ [f]) := ⟨by rw [hlen1]; exact q1, by rw [hlen1]; exact q2, R1, R2, K7 _ _ hD'.o (Ne.symm d4) (Ne.symm d7) (Ne.symm d9) (Ne.symm d10)⟩
    have him7 : ∀ q, q < (im ++ [f]).length → PermL n (nthR (im ++ [f]) q) := fun q hq => by
     rw [nthR_snoc]
     by_cases e : q < im.length
     ·rw [if_pos e]; exact him q (by omega)
     ·rw [if_neg e, if_pos (by omega)]; exact hfp
    have himI : ∀ q, q < (invA (im ++ [f])).length → PermL n (nthR (invA (im ++ [f])) q) := fun q hq => by
     rw [invA_length] at hq
     rw [invA_at hq]
     exact (him7 q hq).inv
    have hM1 := R1.mat him7 ⟨by omega, by omega⟩
    have hM2 := R2.mat himI ⟨by rw [invA_length]; omega, by omega⟩
    rw [hlen1] at hM1
    rw [invA_length, hlen1] at hM2
    have hAsk : AskI H7 pI pK pN n (im ++ [f]) (invA (im ++ [f])) := ⟨⟨_, q1, hM1⟩, ⟨_, q2, hM2⟩, hF7.n_, fun k hk => ⟨(him7 k hk).len, (him7 k hk).rng⟩, fun k hk => ⟨(himI k hk).len, (himI k hk).rng⟩, invA_length _, by omega, by omega⟩
    obtain ⟨Rb, rv, f1, f2, f3⟩ := hF7.r
    obtain ⟨vr2, f4, f5⟩ := f3 (g + 1) (by omega)
    have hLet : ∀ i, i < (readyL rels (g + 1)).length → LetOk (im ++ [f]).length (nthR (readyL rels (g + 1)) i) := fun j hj => by
     obtain ⟨m1, m2⟩ := List.mem_filter.1 (show nthR (readyL rels (g + 1)) j ∈ rels.filter (fun r => lastW r == g + 1) from nthR_mem hj)
     have hlw : lastW (nthR (readyL rels (g + 1)) j) = g + 1 := by simpa using m2
     have h := hlet _ m1
     rw [hlw] at h
     rw [hlen1]
     exact h
    have hrl : (readyL rels (g + 1)).length < 1000000 := by
     have : (readyL rels (g + 1)).length ≤ rels.length := List.length_filter_le _ _
     omega
    have hct := containsF_ hE hAsk f5 hLet hrl
    have hgood : (∀ i, i < (readyL rels (g + 1)).length → TrivL (im ++ [f]) (invA (im ++ [f])) (nthR (readyL rels (g + 1)) i) n) ↔ GoodA n rels (im ++ [f]) := by unfold GoodA; rw [hlen1]; exact Iff.rfl
    have hwg : IntKind.i64.wrap ((g : Int) + 1) = (g : Int) + 1 := by rw [w64_id] <;> omega
    simp only [askV] at hct
    have hg1 : (g : Int) + 1 < (gens : Int) + 1 := by omega
    have hg0 : (0 : Int) ≤ (g : Int) + 1 := by omega
    have hgt : ((g : Int) + 1).toNat = g + 1 := by omega
    have hcI : cntI n (permL n) rels m im (i + 1) = cntI n (permL n) rels m im i + (if GoodA n rels (im ++ [f]) then cntV n (permL n) rels m (im ++ [f]) else 0) := by rw [hf]; rfl
    by_cases hG : GoodA n rels (im ++ [f])
    ·rw [decide_eq_true (hgood.2 hG)] at hct
     have hfv := hF7.v
     simp only [visV2] at hfv
     simp [g0, g4, g5, g6, g7, g9, g22, g23, g24, hi, rd_def, r1, i1, sl1, ← hH1, happ1, i2', sl2, DC_of hinv, ← hH4, happ2, bit, wrN_def, j1, ← hH6, j2', ← hH7, f1, f2, f4, hwg, hg1, hg0, hgt, DC_of hct, hfv, -List.length_append]
     have hvle := cntI_le n (permL n) rels m im i
     have hmul : (i + 1) * (permL n).length ^ m ≤ (permL n).length * (permL n).length ^ m := Nat.mul_le_mul_right _ (by omega)
     rw [Nat.succ_mul] at hmul
     rw [Nat.pow_succ, Nat.mul_comm ((permL n).length ^ m)] at hc1
     refine ⟨Ne.symm d5, d8, (ih (h := H7) (im := im ++ [f]) (c := c + cntI n (permL n) rels m im i) (by rw [hlen1]; omega) him7 (hs.trans hX7) (by omega) hD7 (by omega) (by omega)).imp ?_⟩
     rintro o ⟨h8, f8⟩ ⟨rfl, p1, p2, p3, p4, p5⟩
     simp only at p1 p2 p3 p4 p5
     have hj8 : ∀ F, joined ⟨H7, F⟩ ⟨h8, f8⟩ = ⟨h8, min F f8⟩ := fun F => by simp only [joined]; rw [if_pos (by omega)]
     simp [hj8, g0, g4, g5, g6, g7, g9, g22, g23, g24, hw]
     rw [hlen1] at p5
     refine ⟨kk - 1, by omega, i + 1, by omega, h8, _, ⟨rfl, rfl⟩, by omega, by omega, by omega, hX7.trans p4, ⟨g + 1, p5.i, p5.k, p5.b1.less, ?_, ?_⟩, by omega⟩
     ·have := p5.b2
      rw [invA_snoc] at this
      exact this.less
     ·rw [hcI, if_pos hG]
      have := p5.o
      rw [show (c + ((cntI n (permL n) rels m im i + cntV n (permL n) rels m (im ++ [f]) : Nat) : Int)) = c + (cntI n (permL n) rels m im i : Int) + (cntV n (permL n) rels m (im ++ [f]) : Int) by omega]
      exact this
    ·rw [decide_eq_false (fun h => hG (hgood.1 h))] at hct
     simp [g0, g4, g5, g6, g7, g9, g22, g23, g24, hi, rd_def, r1, i1, sl1, ← hH1, happ1, i2', sl2, DC_of hinv, ← hH4, happ2, bit, wrN_def, j1, ← hH6, j2', ← hH7, f1, f2, f4, hwg, hg1, hg0, hgt, DC_of hct, hw, -List.length_append]
     refine ⟨Ne.symm d5, d8, kk - 1, by omega, i + 1, by omega, H7, _, ⟨rfl, rfl⟩, by omega, by omega, by omega, hX7, ⟨g + 1, q1, q2, R1.less, ?_, ?_⟩, by omega⟩
     ·rw [invA_snoc] at R2
      exact R2.less
     ·rw [hcI, if_neg hG]
      exact hD7.o
   ·have hin : i = (permL n).length := by omega
    subst hin
    have sl1 := slice_pre (gl := gl) (c := gens) (g := g) x1 (by omega)
    have sl2 := slice_pre (gl := gl) (c := gens) (g := g) y1 (by omega)
    have i2' := fun o => set_ne (x := o) i2 (Ne.symm d1)
    simp [g0, g4, g5, g6, g7, g9, g22, g23, g24, rd_def, i1, i2, sl1, sl2, bit, wrN_def, i2', d1, Ne.symm d1, d2, d3, d5, d6, Ne.symm d2, Ne.symm d3, Ne.symm d5, Ne.symm d6, endK_ret]
    unfold pairQ back
    rw [if_neg (by simp; omega)]
    have lpI := (List.getElem?_eq_some_iff.1 i1).1
    have hkint : ∀ (b' : Nat) cs' s', h'[b']? = some (O.cells cs' 3 (some s')) → b' ≠ pI ∧ b' ≠ pK := fun p cs' s' hp => by
     constructor
     ·intro e; subst e; rw [hp] at i1; simp at i1
     ·intro e; subst e; rw [hp] at i2; simp at i2
    refine ⟨rfl, by simp only; omega, by simp only; omega, by simp; exact hlen', (hX.set (by omega) _).set (by omega) _, set_ne (set_self i1) d1, set_self (set_ne i2 (Ne.symm d1)), hD'.b1.keep (fun cs e => set_ne (set_ne e (Ne.symm d2)) (Ne.symm d5)) (fun p cs' s' hp _ => set_ne (set_ne hp (hkint _ _ _ hp).1) (hkint _ _ _ hp).2), hD'.b2.keep (fun cs e => set_ne (set_ne e (Ne.symm d3)) (Ne.symm d6)) (fun p cs' s' hp _ => set_ne (set_ne hp (hkint _ _ _ hp).1) (hkint _ _ _ hp).2), set_ne (set_ne hD'.o (Ne.symm d4)) (Ne.symm d7)⟩
  ·exact ⟨0, h, h.length, g, by omega, rfl, by omega, Nat.le_refl _, Nat.le_refl _, SubX.refl _ _ _ _ _ _, by simpa [cntI, sumNat, ← hg] using hD, by simp⟩
end Go.Proofs.Ytjlkndkedknocaa
