/- Texts that were built one by one: Wd1, Wd2, Wd3, Wd4, Wo3, Wo4, Wo5, Wo6, Wl1, Wr12, Wl11, Wm4, Wl12, Wl12b. -/
import Derived.Test.YtjlkndkedknocaaMh
import Derived.Test.YtjlkndkedknocaaMd
import Derived.Test.YtjlkndkedknocaaMf
import Derived.Test.YtjlkndkedknocaaMg
set_option linter.unusedSimpArgs false
set_option linter.unusedVariables false
namespace Go.Ai
theorem readyL_snoc (R : List (List Int)) (r : List Int) (j : Nat) : readyL (R ++ [r]) j = if lastW r = j then readyL R j ++ [r] else readyL R j := by
 unfold readyL
 rw [List.filter_append]
 by_cases h : lastW r = j
 ·rw [if_pos h]; simp [h]
 ·rw [if_neg h]; simp [h]
theorem readyL_le (R : List (List Int)) (j : Nat) : (readyL R j).length ≤ R.length := List.length_filter_le _ _
theorem lastW_take {w : List Int} {i : Nat} (h : i < w.length) : lastW (w.take (i + 1)) = max (lastW (w.take i)) (nth w i).natAbs := by
 unfold lastW
 rw [List.take_add_one, List.getElem?_eq_getElem h, List.foldl_append, nth_eq h]
 rfl
end Go.Ai
namespace Go.Proofs.Ytjlkndkedknocaa
open Go Go.Ai
attribute [local instance] Classical.propDecidable
def ReadyS (hb h : List O) (lo : Nat) (v : Value) (R : List (List Int)) : Prop :=
 ∃ ws, OwnS h lo v R.length ws 34 1 ∧ ∀ q, q < R.length → ∃ w, ws[q]? = some w ∧ Ints hb w (nthR R q)
theorem ReadyS.mat {hb h : List O} {lo : Nat} {v : Value} {R : List (List Int)} (k : ReadyS hb h lo v R) (hs : ∀ w xs, Ints hb w xs → Ints h w xs) (hl : R.length < 2 ^ 62) : Mat h v R := by
 obtain ⟨ws, ⟨h1, h2⟩, h3⟩ := k
 rcases h2 with ⟨rfl, h0⟩ | ⟨b, s, rfl, hb, hc, _⟩
 ·have : R = [] := List.length_eq_zero_iff.1 h0
  subst this
  exact ⟨none, 0, 0, 0, fun _ => undef, rfl, fun h => absurd h (by simp), fun i hi => absurd hi (by simp), by simp⟩
 ·refine ⟨_, b, 0, R.length, fun q => (ws[q]?).getD undef, rfl, fun _ => rfl, fun q hq => ?_, hl⟩
  obtain ⟨w, r1, r2⟩ := h3 q hq
  exact ⟨by rw [rd_def, hc, Nat.zero_add]; simp [r1], by simp only [r1, Option.getD_some]; exact hs _ _ r2⟩
theorem ReadyS.keep {hb h h' : List O} {lo : Nat} {v : Value} {R : List (List Int)} (k : ReadyS hb h lo v R) (hk : ∀ b n c, v = .slice (some ⟨b, 0, none⟩) n c → lo ≤ b → ∀ o, h[b]? = some o → h'[b]? = some o) : ReadyS hb h' lo v R := by
 obtain ⟨ws, h1, h3⟩ := k
 refine ⟨ws, h1.keep fun b s e1 e2 => ?_, h3⟩
 rcases h1.2 with ⟨z1, _⟩ | ⟨b2, s2, z1, z2, z3, _⟩
 ·rw [z1] at e1; cases e1
 ·have e1' := e1
  rw [z1] at e1
  simp only [Value.slice.injEq, Option.some.injEq, Addr.mk.injEq] at e1
  exact hk b _ _ e1' (by omega) _ e2
structure RdI (hb h : List O) (lo Rb gens : Nat) (R : List (List Int)) (rv : List Value) : Prop where
 at_ : h[Rb]? = some (.cells rv 48 (some 0))
 len : rv.length = gens + 1
 lt : Rb < lo
 lo_ : lo ≤ h.length
 each : ∀ j, j < gens + 1 → ∃ v, rv[j]? = some v ∧ ReadyS hb h lo v (readyL R j)
 apart : ∀ (j j' b n c n' c' : Nat), j ≠ j' → rv[j]? = some (Value.slice (some ⟨b, 0, none⟩) n c) → rv[j']? = some (Value.slice (some ⟨b, 0, none⟩) n' c') → False
theorem ReadyS.blk {hb h : List O} {lo : Nat} {v : Value} {R : List (List Int)} (k : ReadyS hb h lo v R) : (v = .slice none 0 0 ∧ R = []) ∨ ∃ b, v = .slice (some ⟨b, 0, none⟩) R.length R.length ∧ lo ≤ b ∧ b < h.length := by
 obtain ⟨ws, ⟨h1, h2⟩, h3⟩ := k
 rcases h2 with ⟨rfl, h0⟩ | ⟨b, s, rfl, hb, hc, _⟩
 ·exact .inl ⟨rfl, List.length_eq_zero_iff.1 h0⟩
 ·exact .inr ⟨b, rfl, hb, (List.getElem?_eq_some_iff.1 hc).1⟩
theorem RdI.add {hb h : List O} {lo Rb gens fl : Nat} {R : List (List Int)} {rv : List Value} {r : List Int} {w : Value} (hI : RdI hb h lo Rb gens R rv) (hw : Ints hb w r) (hw1 : one1 w = true) (hl : lastW r < gens + 1) (hR : R.length ≤ 100000) :
  ∃ v, rv[lastW r]? = some v ∧ (v = .slice none 0 0 ∨ ∃ b n, v = .slice (some ⟨b, 0, none⟩) n n ∧ lo ≤ b) ∧ ∃ b' n' H4 f4, appendV 34 1 24 v (.slice (some ⟨h.length, 0, none⟩) 1 1) ⟨h ++ [.cells [w] 34 (some 0)], fl⟩ = some (.slice (some ⟨b', 0, none⟩) n' n', ⟨H4, f4⟩) ∧ min fl lo ≤ f4 ∧ f4 ≤ fl ∧
   (∀ (b : Nat) (o : O), b < lo → h[b]? = some o → H4[b]? = some o) ∧ h.length ≤ H4.length ∧
   RdI hb (H4.set Rb (.cells (rv.set (lastW r) (.slice (some ⟨b', 0, none⟩) n' n')) 48 (some 0))) lo Rb gens (R ++ [r]) (rv.set (lastW r) (.slice (some ⟨b', 0, none⟩) n' n')) := by
 obtain ⟨v, hv, hS⟩ := hI.each _ hl
 have hblk := hS.blk
 have hS' := hS
 obtain ⟨ws, hown0, hrows⟩ := hS'
 have hread : readSlice (h ++ [.cells [w] 34 (some 0)]) 1 1 (some ⟨h.length, 0, none⟩) = some [w] := by simp [readSlice, rdN_at0]
 have hrl := readyL_le R (lastW r)
 have hlo := hI.lo_
 obtain ⟨b', H4, f4, happ, hb', hown, hf1, hf2, hL4, K4⟩ := append_S (fl := fl) (c := 1) (bytes := 24) (hown0.ext (Ext.snoc h [.cells [w] 34 (some 0)])) hread (by simp) (by simp [hw1]) (by simp; omega) (by simp only [roomMax]; omega) (by omega)
 have hbase : ∀ (b : Nat) (o : O), (∀ n c, v ≠ .slice (some ⟨b, 0, none⟩) n c) → h[b]? = some o → H4[b]? = some o := fun b o hn hb => K4 b o (app_of hb _) hn
 have hlow : ∀ b, b < lo → ∀ n c, v ≠ .slice (some ⟨b, 0, none⟩) n c := fun b hb n c e => by
  rcases hblk with ⟨z, _⟩ | ⟨b2, z, z2, _⟩
  ·rw [z] at e; cases e
  ·rw [z] at e
   simp only [Value.slice.injEq, Option.some.injEq, Addr.mk.injEq] at e
   omega
 have hRb := hI.lt
 have hb'' : h.length + 1 ≤ b' := by simpa using hb'
 have hL4' : h.length + 1 ≤ H4.length := by simpa using hL4
 refine ⟨v, hv, ?_, b', _, H4, f4, happ, hf1, hf2, fun b o hb ho => hbase b o (hlow b hb) ho, by omega, ?_⟩
 ·rcases hblk with ⟨z, _⟩ | ⟨b2, z, z2, _⟩
  ·exact .inl z
  ·exact .inr ⟨b2, _, z, z2⟩
 refine ⟨set_self (hbase _ _ (hlow _ hRb) hI.at_), by simp [hI.len], hRb, by simp; omega, fun j hj => ?_, fun j j' b n c n' c' hne e1 e2 => ?_⟩
 ·rw [readyL_snoc]
  by_cases e : j = lastW r
  ·rw [e, if_pos rfl]
   refine ⟨_, List.getElem?_set_self (by rw [hI.len]; exact hl), ws ++ [w], ?_, fun q hq => ?_⟩
   ·have : OwnS H4 lo (.slice (some ⟨b', 0, none⟩) ((readyL R (lastW r)).length + 1) ((readyL R (lastW r)).length + 1)) (readyL R (lastW r) ++ [r]).length (ws ++ [w]) 34 1 := by simpa using hown
    exact this.keep fun b s z1 z2 => set_ne z2 (by simp at z1; omega)
   ·have hwl : ws.length = (readyL R (lastW r)).length := by have := hown0.1; omega
    simp at hq
    by_cases eq : q < (readyL R (lastW r)).length
    ·obtain ⟨w', r1, r2⟩ := hrows q eq
     refine ⟨w', by rw [List.getElem?_append_left (by omega)]; exact r1, ?_⟩
     rw [nthR_snoc, if_pos eq]; exact r2
    ·have eq2 : q = (readyL R (lastW r)).length := by omega
     refine ⟨w, by rw [List.getElem?_append_right (by omega), hwl, eq2]; simp, ?_⟩
     rw [nthR_snoc, if_neg eq, if_pos eq2]; exact hw
  ·rw [if_neg (Ne.symm e)]
   obtain ⟨v2, q1, q2⟩ := hI.each j hj
   refine ⟨v2, by rw [List.getElem?_set_ne (Ne.symm e)]; exact q1, q2.keep fun b n c z1 z2 o z3 => set_ne (hbase b o (fun n' c' z4 => ?_) z3) (by omega)⟩
   rw [z1] at q1
   rw [z4] at hv
   exact hI.apart j (lastW r) b n c n' c' e q1 hv
 ·have hnew : ∀ j b n c, j ≠ lastW r → rv[j]? = some (.slice (some ⟨b, 0, none⟩) n c) → b < h.length := fun j b n c hj hz => by
   have hjl := (List.getElem?_eq_some_iff.1 hz).1
   rw [hI.len] at hjl
   obtain ⟨v2, q1, q2⟩ := hI.each j hjl
   rw [hz] at q1
   obtain rfl := Option.some.inj q1
   rcases q2.blk with ⟨z, _⟩ | ⟨b2, z, _, z2⟩
   ·cases z
   ·simp only [Value.slice.injEq, Option.some.injEq, Addr.mk.injEq] at z
    omega
  by_cases ej : j = lastW r
  ·rw [ej, List.getElem?_set_self (by rw [hI.len]; exact hl)] at e1
   simp only [Option.some.injEq, Value.slice.injEq, Addr.mk.injEq] at e1
   rw [List.getElem?_set_ne (by omega)] at e2
   have := hnew j' b n' c' (by omega) e2
   omega
  ·rw [List.getElem?_set_ne (Ne.symm ej)] at e1
   by_cases ej' : j' = lastW r
   ·rw [ej', List.getElem?_set_self (by rw [hI.len]; exact hl)] at e2
    simp only [Option.some.injEq, Value.slice.injEq, Addr.mk.injEq] at e2
    have := hnew j b n c ej e1
    omega
   ·rw [List.getElem?_set_ne (Ne.symm ej')] at e2
    exact hI.apart j j' b n c n' c' hne e1 e2
end Go.Proofs.Ytjlkndkedknocaa
namespace Go.Ai
theorem DC.kept {E : Env} (hS : SumsKept E) {f : FuncId} {args : List Value} {st : St} {Q : Out → St → Prop} (h : DC E f args st Q) : DC E f args st fun o st' => Q o st' ∧ Kept st st' := by
 obtain ⟨o, st', ⟨n, h1⟩, h2⟩ := h
 exact ⟨o, st', ⟨n, h1⟩, h2, callKept_of hS (exec_kept hS n) _ _ _ _ _ h1⟩
theorem visL_perm {n : Nat} : ∀ (m : Nat) (f : List Int), f.length + m = n → InN n f → (∀ i j, i < j → j < f.length → nth f i ≠ nth f j) → ∀ g ∈ visL n m f, PermL n g := by
 intro m
 induction m with
 | zero =>
  intro f hl hi hd g hg
  simp only [visL, List.mem_singleton] at hg
  subst hg
  exact ⟨by omega, hi, fun i j h1 h2 => hd i j h1 (by omega)⟩
 | succ m ih =>
  intro f hl hi hd g hg
  simp only [visL, List.mem_flatMap, List.mem_range] at hg
  obtain ⟨x, hx, hg⟩ := hg
  split at hg
  ·simp at hg
  ·rename_i hnot
   have hs : ∀ i, nth (f ++ [(x : Int)]) i = if i < f.length then nth f i else if i = f.length then (x : Int) else 0 := fun i => by
    unfold nth
    by_cases h : i < f.length
    ·rw [if_pos h]; simp [List.getD_eq_getElem?_getD, List.getElem?_append_left h]
    ·rw [if_neg h, List.getD_eq_getElem?_getD, List.getElem?_append_right (by omega)]
     by_cases e : i = f.length
     ·rw [if_pos e, e]; simp
     ·rw [if_neg e, List.getElem?_eq_none (by simp; omega)]; rfl
   refine ih _ (by simp; omega) (fun i hi' => ?_) (fun i j h1 h2 => ?_) g hg
   ·rw [hs]
    simp at hi'
    by_cases h : i < f.length
    ·rw [if_pos h]; exact hi i h
    ·rw [if_neg h, if_pos (by omega)]; omega
   ·simp at h2
    rw [hs, hs, if_pos (by omega)]
    by_cases h : j < f.length
    ·rw [if_pos h]; exact hd i j h1 h
    ·rw [if_neg h, if_pos (by omega)]
     intro e
     exact hnot (e ▸ nth_mem (by omega))
theorem permL_perm {n q : Nat} (h : q < (permL n).length) : PermL n (nthR (permL n) q) :=
 visL_perm n [] (by simp) (fun i hi => by simp at hi) (fun i j _ h => by simp at h) _ (nthR_mem h)
theorem permL_le {n : Nat} (hn : n ≤ 6) : (permL n).length ≤ 46656 := by
 have h0 := visL_le n n []
 have h1 : n ^ n ≤ 6 ^ n := Nat.pow_le_pow_left hn n
 have h2 : 6 ^ n ≤ 6 ^ 6 := Nat.pow_le_pow_right (by omega) hn
 have h3 : (permL n).length ≤ n ^ n := h0
 omega
end Go.Ai
namespace Go.Proofs.Ytjlkndkedknocaa
open Go Go.Ai
attribute [local instance] Classical.propDecidable
variable {E : Env} (hE : OE E)
include hE
theorem round57 {h : List O} {k pO : Nat} {frL : Fr} {v : Value} {c : Int} (hk : h[k]? = some (.loop false 43 frL [39] (lcA 57 0) (lcB 57 0))) (g9 : get frL 9 = .pointer (some ⟨pO, 0, none⟩)) (hO : h[pO]? = some (.cells [.int .i64 c] 3 (some 0))) (hc : 0 ≤ c ∧ c ≤ 10000000000) :
  DR E (yB + k) [v] ⟨h, h.length⟩ (.ret (.bool true)) ⟨h.set pO (.cells [.int .i64 (c + 1)] 3 (some 0)), min pO k⟩ := by
 have n1 : k ≠ pO := fun e => by subst e; rw [hk] at hO; cases hO
 have lk := (List.getElem?_eq_some_iff.1 hk).1
 have lO := (List.getElem?_eq_some_iff.1 hO).1
 have hDC : DC E (yB + k) [v] ⟨h, h.length⟩ fun o st' => o = .ret (.bool true) ∧ st' = ⟨h.set pO (.cells [.int .i64 (c + 1)] 3 (some 0)), min pO k⟩ := by
  refine DC_yield (hE.Y k) hk rfl hE.c57_0a hE.c57_0b ?_
  unfold ra57_0
  simp [putAll]
  refine ⟨_, turn_eq hk, ?_⟩
  unfold rl57_0
  obtain ⟨H1, hH1⟩ : ∃ H, H = h.set k (O.loop (!false) 43 frL [39] (lcA 57 0) (lcB 57 0)) := ⟨_, rfl⟩
  have hO1 : H1[pO]? = some (.cells [.int .i64 c] 3 (some 0)) := by rw [hH1]; exact set_ne hO (Ne.symm n1)
  have hk1 : H1[k]? = some (O.loop (!false) 43 frL [39] (lcA 57 0) (lcB 57 0)) := by rw [hH1]; exact set_self hk
  have hw : IntKind.i64.wrap (c + 1) = c + 1 := by rw [w64_id] <;> omega
  rw [← hH1]
  simp [g9, rd_def, hO1, hw, wrN_def]
  have hk2 : (H1.set pO (.cells [.int .i64 (c + 1)] 3 (some 0)))[k]? = some (O.loop (!false) 43 frL [39] (lcA 57 0) (lcB 57 0)) := set_ne hk1 n1
  have ht := turn_eq (f := min h.length (min k pO)) hk2
  simp only [Bool.not_false, Bool.not_true] at ht
  rw [ht]
  have hm : min (min h.length (min k pO)) k = min pO k := by omega
  rw [hm]
  congr 2
  apply List.ext_getElem?
  intro i
  rw [hH1]
  simp only [List.getElem?_set, List.length_set]
  by_cases e1 : k = i
  ·subst e1
   simp [lk, Ne.symm n1, hk]
   have := (List.getElem?_eq_some_iff.1 hk).2
   exact this.symm
  ·simp [e1]
 obtain ⟨o, st', h1, rfl, rfl⟩ := hDC
 exact h1
end Go.Proofs.Ytjlkndkedknocaa
namespace Go.Proofs.Ytjlkndkedknocaa
open Go Go.Ai
attribute [local instance] Classical.propDecidable
theorem lastW_lt {w : List Int} {gens : Nat} (h : LetOk gens w) : lastW w < gens + 1 := by
 have key : ∀ i, i ≤ w.length → lastW (w.take i) ≤ gens := by
  intro i
  induction i with
  | zero => intro _; simp [lastW]
  | succ i ih =>
   intro hi
   have h1 := ih (by omega)
   have h2 := h i (by omega)
   rw [lastW_take (by omega)]
   omega
 have := key w.length (Nat.le_refl _)
 rw [List.take_length] at this
 omega
theorem RdI.nil {hb h : List O} {lo Rb gens : Nat} (h1 : h[Rb]? = some (.cells (List.replicate (gens + 1) (.slice none 0 0)) 48 (some 0))) (h2 : Rb < lo) (h3 : lo ≤ h.length) : RdI hb h lo Rb gens [] (List.replicate (gens + 1) (.slice none 0 0)) := by
 refine ⟨h1, by simp, h2, h3, fun j hj => ⟨.slice none 0 0, by rw [List.getElem?_replicate, if_pos hj], [], OwnS.nil _ _ _ _, fun q hq => by simp [readyL] at hq⟩, fun j j' b n c n' c' _ e _ => ?_⟩
 rw [List.getElem?_replicate] at e
 split at e
 ·cases e
 ·cases e
variable {E : Env} (hE : OE E)
include hE
theorem assign1_ (hKp : SumsKept E) {hB hK : List O} {k pO pN pG n gens : Nat} {vr : Value} {frL : Fr} {rels : List (List Int)} (hn : 1 ≤ n ∧ n ≤ 6) (hgens : gens ≤ 600) (hrels : rels.length ≤ 100000)
  (hlet : ∀ r ∈ rels, LetOk gens r) (hsB : Sub hB hK) (hBl : hB.length ≤ pO) (hM : Mat hB vr rels)
  (hk : hK[k]? = some (.loop false 43 frL [39] (lcA 57 0) (lcB 57 0))) (g9 : get frL 9 = .pointer (some ⟨pO, 0, none⟩))
  (hO : hK[pO]? = some (.cells [.int .i64 0] 3 (some 0))) (hN : hK[pN]? = some (.cells [.int .i64 n] 3 (some 0))) (hG : hK[pG]? = some (.cells [.int .i64 gens, vr] 81 (some 0)))
  (ho : pO < pN ∧ pO < pG ∧ pO < k) (hcnt : (permL n).length ^ gens ≤ 10000000000) :
  DC E 188 [tok k, .pointer (some ⟨pN, 0, none⟩), .pointer (some ⟨pG, 0, none⟩)] ⟨hK, hK.length⟩ fun o st' => (∃ v, o = .ret v) ∧ pO ≤ st'.fl ∧ (∀ (b : Nat) (o : O), hK[b]? = some o → b ≠ pO → st'.h[b]? = some o) ∧ AtB st'.h pO (.cells [.int .i64 (cntV n (permL n) rels gens [])] 3 (some 0)) := by
 refine hE.fnC (body := rb188) rfl ?_
 unfold rb188
 have lO := (List.getElem?_eq_some_iff.1 hO).1
 have lk := (List.getElem?_eq_some_iff.1 hk).1
 have lN := (List.getElem?_eq_some_iff.1 hN).1
 have lG := (List.getElem?_eq_some_iff.1 hG).1
 obtain ⟨h1, hh1⟩ : ∃ H, H = hK ++ [O.cells [tok k] 219 (some 0)] := ⟨_, rfl⟩
 have l1 : h1.length = hK.length + 1 := by rw [hh1]; simp
 have hN1 : h1[pN]? = some (.cells [.int .i64 n] 3 (some 0)) := by rw [hh1]; exact app_of hN _
 have htk : (tok k).cells = #[tok k] := rfl
 have htk1 : one1 (tok k) = true := rfl
 simp [htk, ← hh1, rd_def, hN1]
 refine (permutations_ hE hn).imp ?_
 rintro o ⟨h2, f2⟩ ⟨v, rfl, s2, hf2, hP⟩
 simp only at s2 hf2 hP
 have hjo : joined ⟨h1, hK.length⟩ ⟨h2, f2⟩ = ⟨h2, hK.length⟩ := joined_fl hf2
 obtain ⟨aa, rfl, hrows⟩ := hP.look
 have s12 : Sub hK h2 := fun b o hb => s2 _ _ (by rw [hh1]; exact app_of hb _)
 have l2 : h1.length ≤ h2.length := by
  have h0 : h1[hK.length]? = some (O.cells [tok k] 219 (some 0)) := by rw [hh1, app_at0]; rfl
  have := (List.getElem?_eq_some_iff.1 (s2 _ _ h0)).1
  omega
 have hG2 : ∀ l, (h2 ++ l)[pG]? = some (.cells [.int .i64 gens, vr] 81 (some 0)) := fun l => app_of (s12 _ _ hG) l
 have hwg : IntKind.i64.wrap ((gens : Int) + 1) = (gens : Int) + 1 := by rw [w64_id] <;> omega
 have e1 : ((gens : Int) + 1) * 24 ≤ 140737488355328 := by omega
 have e2 : (gens : Int) + 1 < 4611686018427387904 := by omega
 have e3 : (0 : Int) ≤ (gens : Int) + 1 := by omega
 have e4 : ((gens : Int) + 1).toNat = gens + 1 := by omega
 have hrep : rep (gens + 1) [Value.slice none 0 0] = List.replicate (gens + 1) (.slice none 0 0) := by simp [rep]
 obtain ⟨va, vb, vo, vc, vs, hvr, hva, hvs⟩ := hM.at
 subst hvr
 simp [hjo, bit, wrN_at0, set_at0, rd_def, hG2, hwg, e1, e2, e3, e4, hrep, wrN_at, set_at, List.append_assoc]
 obtain ⟨hQ, hhQ⟩ : ∃ H, H = h2 ++ [O.cells [.slice aa (permL n).length (permL n).length] 48 (some 0), O.cells (List.replicate (gens + 1) (.slice none 0 0)) 48 (some 0), O.cells [.slice (some ⟨h2.length + 1, 0, none⟩) (gens + 1) (gens + 1)] 129 (some 0)] := ⟨_, rfl⟩
 rw [← hhQ]
 have lQ : hQ.length = h2.length + 3 := by rw [hhQ]; simp
 have q0 : hQ[h2.length]? = some (O.cells [.slice aa (permL n).length (permL n).length] 48 (some 0)) := by rw [hhQ, app_at0]; rfl
 have q1 : hQ[h2.length + 1]? = some (O.cells (List.replicate (gens + 1) (.slice none 0 0)) 48 (some 0)) := by rw [hhQ, app_at]; rfl
 have q2 : hQ[h2.length + 2]? = some (O.cells [.slice (some ⟨h2.length + 1, 0, none⟩) (gens + 1) (gens + 1)] 129 (some 0)) := by rw [hhQ, app_at]; rfl
 have s2Q : Sub h2 hQ := by rw [hhQ]; exact (Sub.refl _).app _
 have sBQ : Sub hB hQ := fun b o hb => s2Q _ _ (s12 _ _ (hsB _ _ hb))
 have hlen : rels.length < 2 ^ 62 := by omega
 obtain ⟨Rb, hRb⟩ : ∃ Rb, Rb = h2.length + 1 := ⟨_, rfl⟩
 obtain ⟨pA, hpA⟩ : ∃ pA, pA = h2.length := ⟨_, rfl⟩
 obtain ⟨pR, hpR⟩ : ∃ pR, pR = h2.length + 2 := ⟨_, rfl⟩
 have hmn : min hK.length h2.length = hK.length := by omega
 rw [hmn, ← hRb, ← hpR, ← hpA]
 rw [← hRb] at q1 q2
 rw [← hpR] at q2
 rw [← hpA] at q0
 refine DW_loop (fun kk fr st => ∃ (i : Nat) (h : List O) (rv : List Value), i + kk = rels.length ∧ st = ⟨h, hK.length⟩ ∧ RdI hB h hQ.length Rb gens (rels.take i) rv ∧ (∀ (b : Nat) (o : O), b ≠ Rb → hQ[b]? = some o → h[b]? = some o) ∧
  get fr 0 = tok k ∧ get fr 1 = .pointer (some ⟨pN, 0, none⟩) ∧ get fr 2 = .pointer (some ⟨pG, 0, none⟩) ∧ get fr 3 = .pointer (some ⟨hK.length, 0, none⟩) ∧ get fr 4 = .pointer (some ⟨pA, 0, none⟩) ∧ get fr 5 = .pointer (some ⟨pR, 0, none⟩) ∧ get fr 21 = .slice va rels.length vc ∧ get fr 22 = .int .i64 rels.length ∧ get fr 23 = .int .i64 i) ?_ (k := rels.length) ?_
 ·rintro kk fr st ⟨i, h, rv, hik, rfl, hRd, hkeep, g0, g1, g2, g3, g4, g5, g21, g22, g23⟩
  have sBh : Sub hB h := fun b o hb => by
   have := (List.getElem?_eq_some_iff.1 hb).1
   exact hkeep _ _ (by omega) (sBQ _ _ hb)
  by_cases hi : i < rels.length
  ·have hwi : IntKind.i64.wrap ((i : Int) + 1) = (i : Int) + 1 := by rw [w64_id] <;> omega
   obtain rfl := hva (by omega)
   obtain ⟨r1, r2⟩ := hvs i hi
   obtain ⟨wa, wb, wo, wc, hwv, hwa, hwr⟩ := r2.at
   have hwl : (nthR rels i).length < 2 ^ 62 := by obtain ⟨_, _, _, _, _, _, _, _, h5⟩ := r2; exact h5
   have r1' := Ai.Sub.rdO sBh r1
   have hLet := hlet _ (nthR_mem hi)
   obtain ⟨w, hw⟩ : ∃ w, w = nthR rels i := ⟨_, rfl⟩
   rw [← hw] at hwv hwa hwr hwl hLet r2
   simp [g0, g1, g2, g3, g4, g5, g21, g22, g23, hi, rd_def, r1', hwv]
   refine DW_loop (fun kk' fr st => ∃ (j : Nat), j + kk' = w.length ∧ st = ⟨h, hK.length⟩ ∧
    get fr 0 = tok k ∧ get fr 1 = .pointer (some ⟨pN, 0, none⟩) ∧ get fr 2 = .pointer (some ⟨pG, 0, none⟩) ∧ get fr 3 = .pointer (some ⟨hK.length, 0, none⟩) ∧ get fr 4 = .pointer (some ⟨pA, 0, none⟩) ∧ get fr 5 = .pointer (some ⟨pR, 0, none⟩) ∧ get fr 21 = .slice (some ⟨vb, vo, none⟩) rels.length vc ∧ get fr 22 = .int .i64 rels.length ∧ get fr 23 = .int .i64 i ∧
    get fr 7 = .slice wa w.length wc ∧ get fr 8 = .int .i64 (lastW (w.take j)) ∧ get fr 27 = .slice wa w.length wc ∧ get fr 28 = .int .i64 w.length ∧ get fr 29 = .int .i64 j) ?_ (k := w.length) ?_
   ·clear g0 g1 g2 g3 g4 g5 g21 g22 g23
    rintro kk' fr st ⟨j, hjk, rfl, g0, g1, g2, g3, g4, g5, g21, g22, g23, g7, g8, g27, g28, g29⟩
    by_cases hj : j < w.length
    ·have hwj : IntKind.i64.wrap ((j : Int) + 1) = (j : Int) + 1 := by rw [w64_id] <;> omega
     obtain rfl := hwa (by omega)
     have hlt := hLet j hj
     have hr' := Ai.Sub.rdO sBh (hwr j hj)
     have hwn : IntKind.i64.wrap (-nth w j) = -nth w j := by rw [w64_id] <;> omega
     have hmx : maxminV true [Value.int .i64 (lastW (w.take j)), .int .i64 (nth w j), .int .i64 (-nth w j)] = some (.int .i64 (lastW (w.take (j + 1)))) := by
      rw [lastW_take hj]
      simp only [maxminV, maxmin2, if_true]
      congr 2
      split <;> split <;> omega
     simp [g0, g1, g2, g3, g4, g5, g21, g22, g23, g7, g8, g27, g28, g29, hj, rd_def, hr', hwn, hmx, hwj]
     exact ⟨kk' - 1, by omega, j + 1, by omega, rfl, by omega⟩
    ·have hjw : j = w.length := by omega
     subst hjw
     rw [List.take_length] at g8
     have hlw := lastW_lt hLet
     have q2h := hkeep _ _ (by omega) q2
     have r2v := r2
     rw [hwv] at r2v
     obtain ⟨v, a1, a2, b', n', H4, f4, a3, a4, a5, a6, a7, a8⟩ := RdI.add (fl := hK.length) hRd r2v (by rfl) hlw (by rw [List.length_take]; omega)
     have hRbh := hRd.at_
     have hle : (lastW w : Int) < (gens : Int) + 1 := by omega
     simp [g0, g1, g2, g3, g4, g5, g21, g22, g23, g7, g8, g27, g28, g29, rd_def, q2h, hlw, hle, hRbh, a1, a3]
     have hbv : ∀ x ∈ blk v, ¬ x = Rb ∧ ¬ x = pR := fun x hx => by
      rcases a2 with rfl | ⟨b, n1, rfl, hb1⟩
      ·simp [blk] at hx
      ·simp [blk] at hx
       omega
     refine ⟨⟨fun _ x hx => (hbv x hx).1, fun _ x hx => (hbv x hx).2, fun x hx => (hbv x hx).2⟩, ?_⟩
     have hRb4 := a6 Rb _ (by omega) hRbh
     obtain rfl : f4 = hK.length := by omega
     have hmR : min hK.length Rb = hK.length := by omega
     have hrvl := hRd.len
     have hlwr : lastW w + 1 ≤ rv.length := by omega
     have hlw' : lastW w ≤ gens := by omega
     simp [wrN_def, hRb4, hlw', hrvl, hmR, g0, g1, g2, g3, g4, g5, g21, g22, g23, hwi]
     have htake : rels.take (i + 1) = rels.take i ++ [w] := by rw [List.take_add_one, List.getElem?_eq_getElem hi, hw]; simp [nthR, hi]
     refine ⟨⟨fun h => absurd h (by decide), by decide, fun h => absurd h (by decide)⟩, kk - 1, by omega, i + 1, by omega, ⟨_, by rw [htake]; exact a8⟩, fun b o hb1 hb2 => set_ne (a6 b o ?_ (hkeep b o hb1 hb2)) hb1, by omega⟩
     exact (List.getElem?_eq_some_iff.1 hb2).1
   ·exact ⟨0, by omega, rfl, by simp [lastW, g0, g1, g2, g3, g4, g5, g21, g22, g23]⟩
  ·have hil : i = rels.length := by omega
   subst hil
   rw [List.take_length] at hRd
   have q0h := hkeep _ _ (by omega) q0
   have q2h := hkeep _ _ (by omega) q2
   have hGh := hkeep _ _ (by omega) (s2Q _ _ (s12 _ _ hG))
   have hNh := hkeep _ _ (by omega) (s2Q _ _ (s12 _ _ hN))
   have hOh := hkeep _ _ (by omega) (s2Q _ _ (s12 _ _ hO))
   have hkh := hkeep _ _ (by omega) (s2Q _ _ (s12 _ _ hk))
   have hYh := hkeep hK.length _ (by omega) (s2Q _ _ (s2 _ _ (show h1[hK.length]? = some (O.cells [tok k] 219 (some 0)) by rw [hh1, app_at0]; rfl)))
   have f1 : (gens : Int) * 24 ≤ 140737488355328 := by omega
   have f3 : (gens : Int) < 4611686018427387904 := by omega
   have hrep2 : rep gens [Value.slice none 0 0] = List.replicate gens (.slice none 0 0) := by simp [rep]
   have hGa : ∀ l, (h ++ l)[pG]? = _ := fun l => app_of hGh l
   have lh := hRd.lo_
   obtain ⟨vV, hvV⟩ : ∃ vV, vV = visV2 (h.length + 2) pG hK.length pA (h.length + 3) pR pN (h.length + 4) := ⟨_, rfl⟩
   have hvV' := hvV
   unfold visV2 at hvV
   have hb1 : one1 vV = true := by rw [hvV]; rfl
   have hb2 : vV.cells = #[vV] := by rw [hvV]; rfl
   simp [g0, g1, g2, g3, g4, g5, g21, g22, g23, rd_def, hGh, hGa, f1, f3, hrep2, wrN_at0, wrN_at, set_at, set_at0, List.append_assoc, ← hvV, hb1, hb2]
   refine ⟨⟨fun _ => by omega, fun _ => by omega⟩, ⟨fun _ => by omega, fun _ => by omega⟩, ?_⟩
   obtain ⟨hV, hhV⟩ : ∃ H, H = h ++ [O.cells (List.replicate gens (.slice none 0 0)) 34 (some 0), O.cells (List.replicate gens (.slice none 0 0)) 34 (some 0), O.cells [.slice (some ⟨h.length, 0, none⟩) 0 gens] 48 (some 0), O.cells [.slice (some ⟨h.length + 1, 0, none⟩) 0 gens] 48 (some 0), O.cells [vV] 25 (some 0)] := ⟨_, rfl⟩
   have lV : hV.length = h.length + 5 := by rw [hhV]; simp
   have hVa : ∀ (b : Nat) (o : O), h[b]? = some o → hV[b]? = some o := fun b o hb => by rw [hhV]; exact app_of hb _
   have v0 : hV[h.length]? = some (O.cells (List.replicate gens (.slice none 0 0)) 34 (some 0)) := by rw [hhV, app_at0]; rfl
   have v1 : hV[h.length + 1]? = some (O.cells (List.replicate gens (.slice none 0 0)) 34 (some 0)) := by rw [hhV, app_at]; rfl
   have v2 : hV[h.length + 2]? = some (O.cells [.slice (some ⟨h.length, 0, none⟩) 0 gens] 48 (some 0)) := by rw [hhV, app_at]; rfl
   have v3 : hV[h.length + 3]? = some (O.cells [.slice (some ⟨h.length + 1, 0, none⟩) 0 gens] 48 (some 0)) := by rw [hhV, app_at]; rfl
   have v4 : hV[h.length + 4]? = some (O.cells [vV] 25 (some 0)) := by rw [hhV, app_at]; rfl
   rw [← hhV]
   have hmn2 : min hK.length (h.length + 2) = hK.length := by omega
   rw [hmn2]
   have htgt : target vV [] = some (189, [.pointer (some ⟨h.length + 2, 0, none⟩), .pointer (some ⟨pG, 0, none⟩), .pointer (some ⟨hK.length, 0, none⟩), .pointer (some ⟨pA, 0, none⟩), .pointer (some ⟨h.length + 3, 0, none⟩), .pointer (some ⟨pR, 0, none⟩), .pointer (some ⟨pN, 0, none⟩), .pointer (some ⟨h.length + 4, 0, none⟩)]) := by rw [hvV]; rfl
   have hPl := permL_le hn.2
   have hle3 : ∀ r ∈ rels, LetOk (lastW r) r := fun r hr j hj => by
    have h1 := hlet r hr j hj
    have h2 := lastW_le (nth_mem hj)
    exact ⟨h1.1, by omega, by omega⟩
   have hfix : ∀ h', SubX (h.length + 2) (h.length + 3) h.length (h.length + 1) pO hV h' → hV.length ≤ h'.length → FixI E h' aa pG hK.length pA pR pN (h.length + 4) pO k n gens vV rels := fun h' hs hl => by
    have K : ∀ (b : Nat) (o : O), h[b]? = some o → b ≠ pO → h'[b]? = some o := fun b o hb hn => by
     have := (List.getElem?_eq_some_iff.1 hb).1
     exact hs b o (hVa _ _ hb) (by omega) (by omega) (by omega) (by omega) hn
    refine ⟨⟨_, K _ _ hGh (by omega)⟩, K _ _ hYh (by omega), K _ _ q0h (by omega), fun q hq => ?_, ⟨Rb, rv, K _ _ q2h (by omega), K _ _ hRd.at_ (by omega), fun j hj => ?_⟩, K _ _ hNh (by omega), hs _ _ v4 (by omega) (by omega) (by omega) (by omega) (by omega), fun v c hc1 hc2 => round57 hE (K _ _ hkh (by omega)) g9 hc1 hc2⟩
    ·obtain ⟨b, b', z1, z2, z3, z4, z5⟩ := hrows q hq
     refine ⟨b, b', z1, ?_, by omega, ?_⟩
     ·cases hb : h2[b]? with
      | none => rw [hb] at z3; simp [rdO] at z3
      | some o =>
       have := (List.getElem?_eq_some_iff.1 hb).1
       rw [K _ _ (hkeep _ _ (by omega) (s2Q _ _ hb)) (by omega), ← hb]
       exact z3
     ·have := (List.getElem?_eq_some_iff.1 z5).1
      exact K _ _ (hkeep _ _ (by omega) (s2Q _ _ z5)) (by omega)
    ·obtain ⟨v, z1, z2⟩ := hRd.each j hj
     refine ⟨v, z1, (z2.keep (h' := h') fun b n c _ hb o ho => K _ _ ho (by omega)).mat (fun w xs hx => ?_) ?_⟩
     ·exact hx.sub fun b o hb => K _ _ (sBh _ _ hb) (by have := (List.getElem?_eq_some_iff.1 hb).1; omega)
     ·have := readyL_le rels j
      omega
   have hD0 : DynI hV (h.length + 2) (h.length + 3) h.length (h.length + 1) pO n gens (([] : List (List Int)).length) 0 [] := ⟨v2, v3, ⟨_, v0, by simp, fun q hq => by simp at hq⟩, ⟨_, v1, by simp, fun q hq => by simp [invA] at hq⟩, hVa _ _ hOh⟩
   have hvis := visit2_ (hV := hV) hE hn hgens (fun q hq => permL_perm hq) hle3 (by omega) (hvV' ▸ hfix) (base := pO) ⟨by omega, by omega, by omega, by omega, by omega, by omega⟩ ⟨by omega, by omega, by omega, by omega, by omega, by omega⟩ (by omega) (by omega) (by omega) (by omega) (by omega) (by omega) (by omega) (by omega) (by omega) (by omega) (by omega)
    gens (im := []) (by simp) (fun q hq => by simp at hq) (SubX.refl _ _ _ _ _ _) (Nat.le_refl _) hD0 (by omega) (by simpa using (show ((permL n).length ^ gens : Nat) ≤ (10000000000 : Int) by omega))
   simp [htgt]
   refine (DC.kept hKp hvis).imp ?_
   rintro o ⟨h3, f3⟩ ⟨⟨rfl, w1, w2, w3, w4, w5⟩, w6⟩
   simp only at w1 w2 w3 w4 w5
   have hjo3 : joined ⟨hV, hK.length⟩ ⟨h3, f3⟩ = ⟨h3, min hK.length f3⟩ := by simp only [joined]; rw [if_pos w2]
   simp [hjo3, bit, endK_normal]
   unfold pairQ back
   have hw5 := w5.o
   simp only [Int.zero_add] at hw5
   split
   ·rename_i hc
    simp at hc
    have := w6.same pO (by simp only; omega) (by simp only; omega)
    simp only at this
    rw [hw5, hVa _ _ hOh] at this
    simp at this
    refine ⟨⟨_, rfl⟩, by simp only; omega, fun b o hb _ => hb, ?_⟩
    rw [this]
    exact hO
   ·exact ⟨⟨_, rfl⟩, by simp only; omega, fun b o hb hn => by
     have := (List.getElem?_eq_some_iff.1 hb).1
     exact w4 b o (hVa _ _ (hkeep _ _ (by omega) (s2Q _ _ (s12 _ _ hb)))) (by omega) (by omega) (by omega) (by omega) hn, hw5⟩
 ·refine ⟨0, hQ, _, by omega, rfl, RdI.nil q1 (by omega) (by omega), fun b o _ hb => hb, ?_⟩
  simp
end Go.Proofs.Ytjlkndkedknocaa
namespace Go.Proofs.Ytjlkndkedknocaa
open Go Go.Ai
attribute [local instance] Classical.propDecidable
def FewA (P g : Nat) : Prop := ∀ i, i < g → P ^ (i + 1) ≤ 2000000
noncomputable def genN (G : Dg) : Nat := arC G + G.L.toNat
noncomputable def cntD (G : Dg) (k : Nat) : Nat := cntV k (permL k) (relL G) (genN G) []
noncomputable def countA (n : Nat) (x : Nat → Nat → Int) (s : Nat → Int) (L k : Int) : Int × Int :=
 if kindD n x s L ≠ 0 then (0, kindD n x s L) else if ¬ (1 ≤ k ∧ k ≤ 6) then (0, 1) else if ¬ FewA (permL k.toNat).length (genN (dgOf n x s L)) then (0, 2) else (cntD (dgOf n x s L) k.toNat, 0)
variable {E : Env} (hE : OE E)
include hE
theorem assignments_ {h : List O} {gens n : Nat} {v : Value} (h1 : one1 v = true) :
  DR E 133 [.agg #[.int .i64 gens, v], .int .i64 n] ⟨h, h.length⟩ (.ret (.func (.func 188) #[] #[.pointer (some ⟨h.length + 1, 0, none⟩), .pointer (some ⟨h.length, 0, none⟩)])) ⟨h ++ [.cells [.int .i64 gens, v] 81 (some 0), .cells [.int .i64 n] 3 (some 0)], h.length⟩ := by
 refine hE.fn (body := rb133) rfl ?_
 unfold rb133
 have hs : (Out.ret (.func (.func 188) #[] #[.pointer (some ⟨h.length + 1, 0, none⟩), .pointer (some ⟨h.length, 0, none⟩)])).scalar = false := rfl
 simp [List.append_assoc, endK_ret, back, hs]
theorem countW_ (hKp : SumsKept E) {h0 : List O} {a : Option Addr} {n c : Nat} {x : Nat → Nat → Int} {s : Nat → Int} {L k : Int} (hx : CrossP h0 a n x s) :
  DR E 57 [dV a n c L, .int .i64 k] ⟨h0, h0.length⟩ (.ret (.tuple #[.int .i64 (countA n x s L k).1, .int .i64 (countA n x s L k).2])) ⟨h0, h0.length⟩ := by
 refine hE.fn (body := rb57) rfl ?_
 unfold rb57
 have hx1 : CrossP (h0 ++ [O.cells [.slice a n c, .int .i64 L] 24 (some 0)]) a n x s := hx.ext (Ext.snoc _ _)
 have h1 := check_ hE (c := c) (L := L) hx1
 simp [dV] at h1
 have hsc : ∀ y z : Int, (Out.ret (.tuple #[.int .i64 y, .int .i64 z])).scalar = true := fun _ _ => rfl
 by_cases hk : kindD n x s L = 0
 ·by_cases hk6 : 1 ≤ k ∧ k ≤ 6
  ·obtain ⟨m, rfl⟩ : ∃ m : Nat, k = m := ⟨k.toNat, by omega⟩
   have hm : 1 ≤ m ∧ m ≤ 6 := by omega
   have hS := (kind_zero hk).1
   have h2 := newLinkC_ hE (c := c) hx1 hk
   simp [dV] at h2
   have nl1 : ¬ ((m : Int) < 1) := by omega
   have ng6 : ¬ (6 < (m : Int)) := by omega
   have hcA : countA n x s L (m : Int) = if ¬ FewA (permL m).length (genN (dgOf n x s L)) then (0, 2) else ((cntD (dgOf n x s L) m : Int), 0) := by
    unfold countA
    rw [if_neg (by simp [hk]), if_neg (by simp; omega)]
    rfl
   rw [hcA]
   obtain ⟨G, hGe⟩ : ∃ G, G = dgOf n x s L := ⟨_, rfl⟩
   have hG : GoodG G := by rw [hGe]; exact good_of hS
   have hGn : G.n = n := by rw [hGe]; rfl
   have hGL : G.L = L := by rw [hGe]; rfl
   have hloops := hG.loops
   have hac := arC_le G
   have hsz := hG.size
   obtain ⟨g, hg⟩ : ∃ g, g = genN G := ⟨_, rfl⟩
   have hg' : (arC G : Int) + L = (g : Int) := by rw [hg, ← hGL]; unfold genN; omega
   have hgl : g ≤ 600 := by omega
   rw [← hGe, ← hg]
   obtain ⟨P, hP⟩ : ∃ P, P = (permL m).length := ⟨_, rfl⟩
   have hPl : P ≤ 46656 := by rw [hP]; exact permL_le hm.2
   rw [← hP]
   obtain ⟨zz, hzz⟩ : ∃ zz, zz = (if ¬ FewA P g then ((0 : Int), (2 : Int)) else ((cntD G m : Int), 0)) := ⟨_, rfl⟩
   rw [← hzz]
   simp [dV, rdN_at0, DC_of h1, hk, nl1, ng6, joined_fl]
   refine h2.imp ?_
   rintro o ⟨h3, f3⟩ ⟨pl, rfl, hp, hf, hs, hl⟩
   simp only at hf hs hl
   have hs0 : Sub h0 h3 := ((Sub.refl h0).app _).trans hs
   simp [joined_fl, hf]
   refine (presentation_ hE hl hS).imp ?_
   rintro o ⟨h4, f4⟩ ⟨v, rfl, hs4, hf4, hM⟩
   simp only at hf4 hs4 hM
   rw [← hGe] at hM ⊢
   rw [hg']
   have hM0 := hM.mat
   have hone : one1 v = true := by obtain ⟨va, vb, vo, vc, vvs, hv, hvr⟩ := hM0; rw [hv]; rfl
   have hl3 := hs.len
   simp at hl3
   have hl4 := hs4.len
   have hmin4 : min h0.length h4.length = h0.length := by omega
   obtain ⟨H, hH⟩ : ∃ H, H = h4 ++ [O.cells [.int .i64 g, v] 81 (some 0)] := ⟨_, rfl⟩
   have hlH : H.length = h4.length + 1 := by rw [hH]; simp
   have hsH : Sub h4 H := by rw [hH]; exact (Sub.refl _).app _
   have hs0H : Sub h0 H := (hs0.trans hs4).trans hsH
   have q6 : H[h4.length]? = some (.cells [.int .i64 g, v] 81 (some 0)) := by rw [hH, app_at0]; rfl
   simp [joined_fl, hf4, wrN_at0, hone, set_at0, hmin4, ← hH, rd_def, q6]
   refine DW_loop (fun kk fr st => ∃ (i : Nat) (h : List O), i + kk = g ∧ st = ⟨h, h0.length⟩ ∧ Sub H h ∧ (∀ i', i' < i → P ^ (i' + 1) ≤ 2000000) ∧ get fr 1 = .int .i64 m ∧ get fr 7 = .pointer (some ⟨h4.length, 0, none⟩) ∧ get fr 8 = .int .i64 ((P ^ i : Nat) : Int) ∧ get fr 25 = .int .i64 g ∧ get fr 26 = .int .i64 i) ?_ (k := g) ?_
   ·rintro kk fr st ⟨i, h, hik, rfl, hsub, hfew, g1, g7, g8, g25, g26⟩
    have hhl := hsub.len
    have q6h := hsub _ _ q6
    by_cases hi : i < g
    ·have hw : IntKind.i64.wrap ((i : Int) + 1) = (i : Int) + 1 := by rw [w64_id] <;> omega
     have hpi : P ^ i ≤ 2000000 := by
      cases i with
      | zero => simp
      | succ i => exact hfew i (by omega)
     have hpm : P ^ i * P ≤ 2000000 * 46656 := Nat.mul_le_mul hpi hPl
     have hpw : IntKind.i64.wrap (((P ^ i : Nat) : Int) * (P : Int)) = ((P ^ (i + 1) : Nat) : Int) := by
      rw [Nat.pow_succ, ← Int.natCast_mul]
      rw [w64_id] <;> omega
     obtain ⟨p0, hp0⟩ : ∃ p0, p0 = P ^ i := ⟨_, rfl⟩
     obtain ⟨p1, hp1⟩ : ∃ p1, p1 = P ^ (i + 1) := ⟨_, rfl⟩
     rw [← hp0] at g8 hpw
     rw [← hp1] at hpw
     simp [g1, g7, g8, g25, g26, hi]
     refine (permutations_ hE hm).imp ?_
     rintro o ⟨h5, f5⟩ ⟨w, rfl, s5, hf5, hPP⟩
     simp only at s5 hf5 hPP
     obtain ⟨wa, rfl, _⟩ := hPP.look
     rw [← hP]
     by_cases hbig : p1 ≤ 2000000
     ·have hb1 : ¬ (2000000 < (p1 : Int)) := by omega
      simp [joined_fl, hf5, g1, g7, g8, g25, g26, hpw, hb1, hw]
      refine ⟨kk - 1, by omega, i + 1, by omega, hsub.trans s5, fun i' hi' => ?_, by rw [hp1]; push_cast; rfl, by omega⟩
      by_cases e : i' < i
      ·exact hfew i' e
      ·obtain rfl : i' = i := by omega
       omega
     ·have hb1 : 2000000 < (p1 : Int) := by omega
      have hnF : ¬ FewA P g := fun hF => hbig (by rw [hp1]; exact hF i hi)
      rw [if_pos hnF] at hzz
      subst hzz
      simp [joined_fl, hf5, g1, g7, g8, g25, g26, hpw, hb1, hw, endK_ret, back, hsc]
    ·obtain rfl : i = g := by omega
     have hF : FewA P i := hfew
     rw [if_neg (fun h => h hF)] at hzz
     obtain ⟨pO, hpO⟩ : ∃ pO, pO = h.length := ⟨_, rfl⟩
     obtain ⟨h6, hh6⟩ : ∃ h6, h6 = h ++ [O.cells [.int .i64 0] 3 (some 0)] := ⟨_, rfl⟩
     have l6 : h6.length = h.length + 1 := by rw [hh6]; simp
     have q66 : h6[h4.length]? = some (.cells [.int .i64 i, v] 81 (some 0)) := by rw [hh6]; exact app_of q6h _
     have has := assignments_ hE (h := h6) (gens := i) (n := m) hone
     obtain ⟨h7, hh7⟩ : ∃ h7, h7 = h6 ++ [O.cells [.int .i64 i, v] 81 (some 0), O.cells [.int .i64 m] 3 (some 0)] := ⟨_, rfl⟩
     rw [← hh7] at has
     have l7 : h7.length = h.length + 3 := by rw [hh7]; simp [l6]
     have hmnh : min h0.length h.length = h0.length := by omega
     simp [g1, g8, g25, g26, wrN_at0, set_at0, hmnh]
     rw [← hh6]
     simp [g1, g7, g8, g25, g26, rd_def, rdN_def, q66, DC_of has, joined_fl]
     rw [← hpO]
     obtain ⟨pG, hpG⟩ : ∃ pG, pG = h6.length := ⟨_, rfl⟩
     obtain ⟨pN, hpN⟩ : ∃ pN, pN = h6.length + 1 := ⟨_, rfl⟩
     rw [← hpN, ← hpG]
     have z0 : h6[pO]? = some (O.cells [.int .i64 0] 3 (some 0)) := by rw [hh6, hpO, app_at0]; rfl
     have z1 : h7[pG]? = some (O.cells [.int .i64 i, v] 81 (some 0)) := by rw [hh7, hpG, app_at0]; rfl
     have z2 : h7[pN]? = some (O.cells [.int .i64 m] 3 (some 0)) := by rw [hh7, hpN, app_at]; rfl
     refine DW_rangeF (f := 188) (vs := [tok h7.length, .pointer (some ⟨pN, 0, none⟩), .pointer (some ⟨pG, 0, none⟩)]) (by simp) (by decide) ?_
     obtain ⟨frL, hfrL⟩ : ∃ frL, frL = put (put (put (put (put fr 27 (Value.bool false)) 9 (Value.pointer (some ⟨pO, 0, none⟩))) 36 (Value.agg #[.int .i64 i, v])) 37 (Value.int .i64 m)) 38 (Value.func (Fn.func 188) #[] #[Value.pointer (some ⟨pN, 0, none⟩), Value.pointer (some ⟨pG, 0, none⟩)]) := ⟨_, rfl⟩
     simp only []
     rw [← hfrL]
     have g9 : get frL 9 = .pointer (some ⟨pO, 0, none⟩) := by rw [hfrL]; simp
     obtain ⟨hK, hhK⟩ : ∃ hK, hK = h7 ++ [O.loop false 43 frL [39] (lcA 57 0) (lcB 57 0)] := ⟨_, rfl⟩
     have lK : hK.length = h7.length + 1 := by rw [hhK]; simp
     rw [← hhK, ← lK]
     have s67 : Sub h6 hK := by rw [hhK, hh7]; exact ((Sub.refl _).app _).app _
     have s7 : Sub h7 hK := by rw [hhK]; exact (Sub.refl _).app _
     have shK : Sub h hK := fun b o hb => s67 _ _ (by rw [hh6]; exact app_of hb _)
     have hkK : hK[h7.length]? = some (O.loop false 43 frL [39] (lcA 57 0) (lcB 57 0)) := by rw [hhK, app_at0]; rfl
     have hRl := relL_length G
     have hlet : ∀ r ∈ relL G, LetOk i r := fun r hr => by
      obtain ⟨q, hq, rfl⟩ := List.mem_map.1 hr
      exact relOf_let hG (List.mem_range.1 hq) (by rw [hg]; unfold genN; omega)
     have hcnt : (permL m).length ^ i ≤ 10000000000 := by
      rw [← hP]
      cases i with
      | zero => simp
      | succ i => have := hF i (by omega); omega
     refine (assign1_ hE hKp (hB := h4) hm hgl (by omega) hlet (hsH.trans (hsub.trans shK)) (by omega) hM0 hkK g9 (s67 _ _ z0) (s7 _ _ z2) (s7 _ _ z1) ⟨by omega, by omega, by omega⟩ hcnt).imp ?_
     rintro o ⟨h8, f8⟩ ⟨⟨w, rfl⟩, y1, y2, y3⟩
     simp only at y1 y2 y3
     refine ⟨⟨_, rfl⟩, ?_⟩
     have hk8 := y2 _ _ hkK (by omega)
     obtain ⟨f9, hj9, hf9⟩ : ∃ f9, joined ⟨hK, h0.length⟩ ⟨h8, f8⟩ = ⟨h8, f9⟩ ∧ h0.length ≤ f9 := by
      simp only [joined]
      split
      ·exact ⟨_, rfl, by omega⟩
      ·exact ⟨_, rfl, by omega⟩
     rw [hj9]
     refine ⟨_, over_eq hk8, ?_⟩
     have y4 : (h8.set h7.length .dead)[pO]? = some (.cells [.int .i64 (cntV m (permL m) (relL G) i [])] 3 (some 0)) := set_ne y3 (by omega)
     have hzc : cntD G m = cntV m (permL m) (relL G) i [] := by unfold cntD; rw [← hg]
     have hmf : h0.length ≤ min f9 h7.length := by omega
     rw [hzz, hzc]
     simp [g9, rd_def, y4, endK_ret, back, hsc]
     rw [if_pos hmf]
     exact ⟨rfl, rfl⟩
   ·exact ⟨0, H, by omega, rfl, Sub.refl _, fun i' hi' => by omega, by simp⟩
  ·unfold countA
   rw [if_neg (by simp [hk]), if_pos hk6]
   by_cases hlt : k < 1
   ·simp [dV, rdN_at0, DC_of h1, hk, hlt, endK_ret, joined_fl, back, hsc]
   ·have hgt : 6 < k := by omega
    simp [dV, rdN_at0, DC_of h1, hk, hlt, hgt, endK_ret, joined_fl, back, hsc]
 ·unfold countA
  rw [if_pos hk]
  simp [dV, rdN_at0, DC_of h1, hk, endK_ret, joined_fl, back, hsc]
end Go.Proofs.Ytjlkndkedknocaa
namespace Go.Proofs.Ytjlkndkedknocaa
open Go Go.Ai
noncomputable def GT : Dg := dgOf 3 xT sT 0
theorem GT_good : GoodG GT := good_of (kind_zero kind_T).1
theorem GT_X (i j : Nat) : GT.X i j = (xT i j).toNat := rfl
def outT : List (Nat × Nat) := [(1, 2), (0, 1), (2, 2), (1, 1), (0, 2), (2, 1)]
def inT : List (Nat × Nat) := [(0, 3), (2, 0), (1, 3), (0, 0), (2, 3), (1, 0)]
theorem in_T : ∀ c, c < 3 → ∀ q, q < 4 → outB 1 q = false → inT.getD (xT c q).toNat (0, 0) = (c, q) := by decide
theorem GT_in {a : Nat} (ha : a < 6) : finT GT a = inT.getD a (0, 0) := by
 obtain ⟨t0, t1, t2, t3, x1, x2, _⟩ := GT_good.T a ha
 obtain ⟨d1, d2⟩ := GT_good.dir a ha
 have := in_T (GT.T a 2) t2 (GT.T a 3) t3 d2
 rw [← GT_X, x2] at this
 exact this.symm
theorem GT_nx {a : Nat} (ha : a < 6) : nx GT a = (a + 1) % 6 := by
 have h := GT_in ha
 unfold finT at h
 have h1 := congrArg Prod.fst h
 have h2 := congrArg Prod.snd h
 simp only at h1 h2
 unfold nx
 rw [h1, h2, GT_X]
 match a, ha with
 | 0, _ => rfl
 | 1, _ => rfl
 | 2, _ => rfl
 | 3, _ => rfl
 | 4, _ => rfl
 | 5, _ => rfl
theorem GT_itr {a : Nat} (ha : a < 6) : ∀ t, itr (nx GT) a t = (a + t) % 6 := by
 intro t
 induction t with
 | zero => simp only [itr]; omega
 | succ t ih =>
  simp only [itr]
  rw [ih, GT_nx (by omega)]
  omega
theorem GT_orb : OrbI 6 (nx GT) 6 1 [0, 0, 0, 0, 0, 0] := by
 have h0 : ∀ j, j < 6 → nth [0, 0, 0, 0, 0, 0] j = 0 := by decide
 refine ⟨rfl, fun j hj => .inr ⟨by rw [h0 j hj]; exact Int.le_refl _, by rw [h0 j hj]; decide⟩, fun j hj => by rw [h0 j hj]; exact Int.le_refl _, fun a b ha hb _ => ⟨fun _ => ⟨b + 6 - a, ?_⟩, fun _ => by rw [h0 a ha, h0 b hb]⟩, fun j hj => ⟨0, by omega, by rw [h0 0 (by omega)]; omega, fun b hb => by omega⟩⟩
 rw [GT_itr ha]
 omega
theorem GT_cp : cpL GT = [0, 0, 0, 0, 0, 0] ∧ cpK GT = 1 := by
 obtain ⟨h1, h2⟩ := cp_eq (G := GT) GT_orb
 exact ⟨h1.symm, h2.symm⟩
theorem GT_per : perA GT 0 = 6 := by
 obtain ⟨⟨h1, h2, h3⟩, h4⟩ := perA_spec GT_good (show 0 < 2 * GT.n by decide)
 rw [GT_itr (by omega)] at h2
 have h5 : 2 * GT.n = 6 := rfl
 omega
theorem GT_arR : ∀ a, a < 6 → arR GT a = a / 2 * 2 := by
 intro a ha
 match a, ha with
 | 0, _ => rfl
 | 1, _ => rfl
 | 2, _ => rfl
 | 3, _ => rfl
 | 4, _ => rfl
 | 5, _ => rfl
theorem GT_cnt : ∀ i, i ≤ 6 → cntR (arR GT) i = (i + 1) / 2 := by
 intro i
 induction i with
 | zero => intro _; rfl
 | succ i ih =>
  intro hi
  rw [cntR_succ, ih (by omega), GT_arR i (by omega)]
  split <;> omega
theorem GT_arN {a : Nat} (ha : a < 6) : arN GT a = a / 2 := by
 unfold arN
 rw [GT_arR a ha, GT_cnt _ (by omega)]
 omega
theorem GT_arC : arC GT = 3 := GT_cnt 6 (by omega)
theorem GT_gen {c q : Nat} (hc : c < 3) (hq : q < 4) : gen GT (GT.X c q) = ((xT c q).toNat / 2 : Nat) + 1 := by
 unfold gen
 rw [GT_arN (GT_good.X c q hc hq)]
 rfl
def relsT : List (List Int) := [[-1, 2, 1, -3], [-2, 3, 2, -1], [-3, 1, 3, -2]]
theorem GT_rel : relL GT = relsT := by
 have h : ∀ i, i < 3 → relOf GT i = nthR relsT i := fun i hi => by
  unfold relOf
  rw [GT_gen hi (by omega), GT_gen hi (by omega), GT_gen hi (by omega)]
  match i, hi with
  | 0, _ => rfl
  | 1, _ => rfl
  | 2, _ => rfl
 show [relOf GT 0, relOf GT 1, relOf GT 2] = relsT
 rw [h 0 (by omega), h 1 (by omega), h 2 (by omega)]
 rfl
theorem GT_word {c q : Nat} (hc : c < 3) (hq : q < 4) : wordP GT (c, q) = if q = 0 then [(((xT c 1).toNat / 2 : Nat) : Int) + 1] else [] := by
 unfold wordP
 split
 ·rw [GT_gen hc (by omega)]
  show [_ * (1 : Int)] = _
  rw [Int.mul_one]
 ·rfl
theorem GT_own {c q : Nat} (hc : c < 3) (hq : q < 4) : ownP GT 0 (c, q) = if q = 0 then 1 else 0 := by
 unfold ownP
 rw [GT_cp.1]
 have h0 : nth [0, 0, 0, 0, 0, 0] (GT.X c 1) = 0 := by
  have h := GT_good.X c 1 hc (by omega)
  have hj : ∀ j, j < 6 → nth [0, 0, 0, 0, 0, 0] j = 0 := by decide
  exact hj _ h
 simp only [h0, and_true]
 rfl
theorem GT_lon : lonD GT 0 = [3, 1, 2, -1, -1, -1] := by
 have hf : fstA GT 0 = 0 := by
  unfold fstA
  exact firstI_found (i := 0) (by decide) (by rw [GT_cp.1]; rfl) (fun j hj => by omega)
 have hi : ∀ t, t < 6 → finT GT (itr (nx GT) 0 t) = inT.getD t (0, 0) := fun t ht => by
  rw [GT_itr (by omega), Nat.zero_add, Nat.mod_eq_of_lt ht, GT_in ht]
 have hw : wordT GT 0 6 = [3, 1, 2] := by
  simp only [wordT]
  rw [hi 0 (by omega), hi 1 (by omega), hi 2 (by omega), hi 3 (by omega), hi 4 (by omega), hi 5 (by omega)]
  show ((((([] ++ wordP GT (0, 3)) ++ wordP GT (2, 0)) ++ wordP GT (1, 3)) ++ wordP GT (0, 0)) ++ wordP GT (2, 3)) ++ wordP GT (1, 0) = _
  rw [GT_word (by omega) (by omega), GT_word (by omega) (by omega), GT_word (by omega) (by omega), GT_word (by omega) (by omega), GT_word (by omega) (by omega), GT_word (by omega) (by omega)]
  rfl
 have ho : lonS GT 0 = 3 := by
  unfold lonS
  rw [hf]
  show ownT GT 0 0 (perA GT 0) = 3
  rw [GT_per]
  simp only [ownT]
  rw [hi 0 (by omega), hi 1 (by omega), hi 2 (by omega), hi 3 (by omega), hi 4 (by omega), hi 5 (by omega)]
  show (((((0 + ownP GT 0 (0, 3)) + ownP GT 0 (2, 0)) + ownP GT 0 (1, 3)) + ownP GT 0 (0, 0)) + ownP GT 0 (2, 3)) + ownP GT 0 (1, 0) = 3
  rw [GT_own (by omega) (by omega), GT_own (by omega) (by omega), GT_own (by omega) (by omega), GT_own (by omega) (by omega), GT_own (by omega) (by omega), GT_own (by omega) (by omega)]
  rfl
 have hm : merD GT 0 = 1 := by
  unfold merD
  rw [hf]
  show (if (0 : Int) ≤ 0 then ((arN GT 0 : Nat) : Int) + 1 else _) = 1
  rw [GT_arN (by omega)]
  rfl
 unfold lonD
 rw [hf, ho, hm]
 show (if (0 : Int) ≤ 0 then wordT GT 0 (perA GT 0) ++ List.replicate 3 (-1) ++ List.replicate 0 1 else []) = _
 rw [GT_per, hw]
 rfl
end Go.Proofs.Ytjlkndkedknocaa
namespace Go.Proofs.Ytjlkndkedknocaa
open Go Go.Ai
def trivB (A B : List (List Int)) (w : List Int) (n : Nat) : Bool := (List.range n).all fun i => actW A B w i == (i : Int)
theorem trivB_eq {A B : List (List Int)} {w : List Int} {n : Nat} : trivB A B w n = true ↔ TrivL A B w n := by
 unfold trivB TrivL
 rw [List.all_eq_true]
 exact ⟨fun h i hi => by simpa using h i (List.mem_range.2 hi), fun h i hi => by simpa using h i (List.mem_range.1 hi)⟩
def goodB (n : Nat) (rels A : List (List Int)) : Bool := (List.range (readyL rels A.length).length).all fun i => trivB A (A.map invL) (nthR (readyL rels A.length) i) n
theorem goodB_eq {n : Nat} {rels A : List (List Int)} : goodB n rels A = true ↔ GoodA n rels A := by
 unfold goodB GoodA
 rw [List.all_eq_true]
 exact ⟨fun h i hi => trivB_eq.1 (h i (List.mem_range.2 hi)), fun h i hi => trivB_eq.2 (h i (List.mem_range.1 hi))⟩
def cntB (n : Nat) (P rels : List (List Int)) : Nat → List (List Int) → Nat
 | 0, _ => 1
 | m + 1, im => sumNat (fun q => bif goodB n rels (im ++ [nthR P q]) then cntB n P rels m (im ++ [nthR P q]) else 0) P.length
theorem cntB_eq (n : Nat) (P rels : List (List Int)) : ∀ m im, cntV n P rels m im = cntB n P rels m im := by
 intro m
 induction m with
 | zero => intro im; rfl
 | succ m ih =>
  intro im
  simp only [cntV, cntB]
  congr 1
  funext q
  rw [ih]
  by_cases h : GoodA n rels (im ++ [nthR P q])
  ·rw [if_pos h, goodB_eq.2 h]; rfl
  ·rw [if_neg h]
   have : goodB n rels (im ++ [nthR P q]) = false := by
    cases hb : goodB n rels (im ++ [nthR P q]) with
    | true => exact absurd (goodB_eq.1 hb) h
    | false => rfl
   rw [this]; rfl
set_option maxRecDepth 100000 in
theorem cnt_T : cntB 3 (permL 3) relsT 3 [] = 12 := by kernel_rfl
theorem count_T : countA 3 xT sT 0 3 = (12, 0) := by
 have hP : (permL 3).length = 6 := by decide
 have hg : genN GT = 3 := by unfold genN; rw [GT_arC]; rfl
 have hF : FewA (permL 3).length (genN (dgOf 3 xT sT 0)) := by
  show FewA (permL 3).length (genN GT)
  rw [hP, hg]
  intro i hi
  match i, hi with
  | 0, _ => decide
  | 1, _ => decide
  | 2, _ => decide
 unfold countA
 rw [if_neg (by simp [kind_T]), if_neg (by decide), if_neg (fun h => h hF)]
 show ((cntV 3 (permL 3) (relL GT) (genN GT) [] : Int), (0 : Int)) = (12, 0)
 rw [hg, GT_rel, cntB_eq, cnt_T]
 rfl
end Go.Proofs.Ytjlkndkedknocaa
namespace Go.Proofs.Ytjlkndkedknocaa
open Go Go.Ai
attribute [local instance] Classical.propDecidable
structure WE (E : Env) : Prop where
 oe : OE E
 kept : SumsKept E
 walk : ∀ (h : List O) (pl n : Nat) (x : Nat → Nat → Int) (s : Nat → Int) (L i : Int), LnkP h pl n x s L → Snd n x s L → DR E 148 [.pointer (some ⟨pl, 0, none⟩), .int .i64 i] ⟨h, h.length⟩ (.ret (walkV h)) ⟨walkM h pl i (dgOf n x s L), h.length⟩
noncomputable def E1 : Env := withK E0 4 148
theorem walk_callable : Callable Try.prog 148 := callableB_ok (by kernel_rfl)
theorem E1_ok (B : Nat) : EnvOk Fence.wide Try.prog B E1 := withK_ok follows E0_ok E0_kept walk_callable B
theorem E1_WE : WE E1 := ⟨E0_OE.sum148, withK_kept E0_kept, fun h pl n x s L i hl hS => by
 refine withK_DR (walk_ E0_OE (E0_S _) hl hS i) ⟨Nat.le_refl _, ?_, fun id h1 _ => ?_⟩
 ·simp only [walkM]; simp
 ·simp only [walkM]
  rw [List.append_assoc]
  exact List.getElem?_append_left h1⟩
theorem ints_at {h : List O} {v : Value} {xs : List Int} (hx : Ints h v xs) : ∃ a b o c, v = .slice a xs.length c ∧ (0 < xs.length → a = some ⟨b, o, none⟩) ∧ (∀ i, i < xs.length → rdO h[b]? (o + i) = some (.int .i64 (nth xs i))) ∧ xs.length < 2 ^ 62 := by
 obtain ⟨a, b, o, c, h1, h2, h3, h4, h5⟩ := hx
 exact ⟨a, b, o, c, h1, h2, fun i hi => by rw [← rd_def]; exact h3 i hi, h5⟩
variable {E : Env} (hE : OE E)
include hE
theorem sameI_ {h : List O} {va vb : Value} {xs ys : List Int} (hx : Ints h va xs) (hy : Ints h vb ys) :
  DR E 76 [va, vb] ⟨h, h.length⟩ (.ret (.bool (decide (xs = ys)))) ⟨h, h.length⟩ := by
 refine hE.fn (body := rb76) rfl ?_
 unfold rb76
 obtain ⟨xa, xb, xo, xc, rfl, ha, hxr, hxl⟩ := ints_at hx
 obtain ⟨ya, yb, yo, yc, rfl, hb, hyr, hyl⟩ := ints_at hy
 have hsc : ∀ b : Bool, (Out.ret (.bool b)).scalar = true := fun _ => rfl
 by_cases hl : xs.length = ys.length
 ·have hl' : (xs.length : Int) = ys.length := by omega
  simp [hl']
  refine DW_loop (fun kk fr st => ∃ (i : Nat), i + kk = ys.length ∧ st = ⟨h, h.length⟩ ∧ (∀ j, j < i → nth xs j = nth ys j) ∧ get fr 0 = .slice xa xs.length xc ∧ get fr 1 = .slice ya ys.length yc ∧ get fr 12 = .int .i64 ys.length ∧ get fr 13 = .int .i64 i) ?_ (k := ys.length) ?_
  ·rintro kk fr st ⟨i, hik, rfl, hd, g0, g1, g12, g13⟩
   by_cases hi : i < ys.length
   ·have hw : IntKind.i64.wrap ((i : Int) + 1) = (i : Int) + 1 := by rw [w64_id] <;> omega
    have hi' : i < xs.length := by omega
    obtain rfl := ha (by omega)
    obtain rfl := hb (by omega)
    by_cases he : nth xs i = nth ys i
    ·simp [g0, g1, g12, g13, hi, hi', hl, rd_def, hxr i hi', hyr i hi, he, hw]
     refine ⟨kk - 1, by omega, i + 1, by omega, fun j hj => ?_, by omega⟩
     by_cases e : j = i
     ·rw [e]; exact he
     ·exact hd j (by omega)
    ·have hne : ¬ xs = ys := fun e => he (by rw [e])
     simp [g0, g1, g12, g13, hi, hi', hl, rd_def, hxr i hi', hyr i hi, he, hne, endK_ret, back, hsc]
   ·obtain rfl : i = ys.length := by omega
    have heq : xs = ys := by
     apply List.ext_getElem hl
     intro j h1 h2
     rw [← nth_eq h1, ← nth_eq h2]
     exact hd j h2
    simp [g0, g1, g12, g13, heq, endK_ret, back, hsc]
  ·exact ⟨0, by omega, rfl, fun j hj => by omega, by simp [hl]⟩
 ·have hl' : ¬ (xs.length : Int) = ys.length := by omega
  have hne : ¬ xs = ys := fun e => hl (by rw [e])
  simp [hl, hl', hne, endK_ret, back, hsc]
end Go.Proofs.Ytjlkndkedknocaa
namespace Go.Proofs.Ytjlkndkedknocaa
open Go Go.Ai
attribute [local instance] Classical.propDecidable
theorem saneW_ {E : Env} (hW : WE E) {h0 : List O} : DR E 56 [] ⟨h0, h0.length⟩ (.ret (.bool true)) ⟨h0, h0.length⟩ := by
 have hE := hW.oe
 refine hE.fn (body := rb56) rfl ?_
 unfold rb56
 have hp := parse_ hE kind_T (h0 := h0)
 unfold textB at hp
 simp
 refine hp.imp ?_
 rintro o ⟨h1, f1⟩ ⟨a, c, rfl, s1, hf1, hx⟩
 simp only at s1 hf1 hx
 have hx2 : CrossP (h1 ++ [O.cells [.slice a 3 c, .int .i64 0] 24 (some 0)]) a 3 xT sT := hx.ext (Ext.snoc _ _)
 have hc := countW_ hE hW.kept (c := c) (L := 0) (k := 3) hx2
 rw [count_T] at hc
 simp [dV] at hc
 have hl := longitude_ hE hW.walk (c := c) (L := 0) hx2 0
 simp [dV, kind_T] at hl
 have hone : ∀ n, one1 (.slice a n c) = true := fun _ => rfl
 simp [joined_fl, hf1, dV, wrN_at0, set_at0, rdN_at0, DC_of hc]
 refine hl.imp ?_
 rintro o ⟨h2, f2⟩ hq
 have hcp : cpK (dgOf 3 xT sT 0) = 1 := GT_cp.2
 rw [hcp] at hq
 simp at hq
 obtain ⟨v, rfl, s2, hf2, hI⟩ := hq
 simp only at s2 hf2 hI
 have hlon : lonD (dgOf 3 xT sT 0) 0 = [3, 1, 2, -1, -1, -1] := GT_lon
 rw [hlon] at hI
 simp at hf2
 have s02 : h1.length + 1 ≤ h2.length := by
  have h0 : (h1 ++ [O.cells [.slice a 3 c, .int .i64 0] 24 (some 0)])[h1.length]? = some (O.cells [.slice a 3 c, .int .i64 0] 24 (some 0)) := by rw [app_at0]; rfl
  have := (List.getElem?_eq_some_iff.1 (s2 _ _ h0)).1
  omega
 have hl1 := s1.len
 have hmn : min h0.length h1.length = h0.length := by omega
 have hI2 := hI.ext (Ext.snoc h2 [O.cells (intsC [3, 1, 2, -1, -1, -1]) 3 (some 0)])
 have hJ : Ints (h2 ++ [O.cells (intsC [3, 1, 2, -1, -1, -1]) 3 (some 0)]) (.slice (some ⟨h2.length, 0, none⟩) 6 6) [3, 1, 2, -1, -1, -1] := by
  refine ⟨_, h2.length, 0, 6, rfl, fun _ => rfl, fun i hi => ?_, fun i => ?_, by decide⟩
  ·rw [rd_def, app_at0]
   match i, hi with
   | 0, _ => rfl
   | 1, _ => rfl
   | 2, _ => rfl
   | 3, _ => rfl
   | 4, _ => rfl
   | 5, _ => rfl
  ·match i with
   | 0 => decide
   | 1 => decide
   | 2 => decide
   | 3 => decide
   | 4 => decide
   | 5 => decide
   | i + 6 => rw [nth_ge (by simp)]; decide
 have hs := sameI_ hE hI2 hJ
 rw [decide_eq_true rfl] at hs
 simp [intsC] at hs
 simp [joined_fl, hf2, hmn, DC_of hs, endK_ret, back]
 rw [if_pos (show (Out.ret (Value.bool true)).scalar = true from rfl)]
 exact ⟨rfl, rfl⟩
end Go.Proofs.Ytjlkndkedknocaa
namespace Go.Ai
end Go.Ai
namespace Go.Proofs.Ytjlkndkedknocaa
open Go Go.Ai
attribute [local instance] Classical.propDecidable
theorem mat_at {h : List O} {v : Value} {A : List (List Int)} (hm : Mat h v A) : ∃ a b o c, ∃ vs : Nat → Value, v = .slice a A.length c ∧ (0 < A.length → a = some ⟨b, o, none⟩) ∧ (∀ i, i < A.length → rdO h[b]? (o + i) = some (vs i) ∧ Ints h (vs i) (nthR A i)) ∧ A.length < 2 ^ 62 := by
 obtain ⟨a, b, o, c, vs, h1, h2, h3, h4⟩ := hm
 exact ⟨a, b, o, c, vs, h1, h2, fun i hi => ⟨by rw [← rd_def]; exact (h3 i hi).1, (h3 i hi).2⟩, h4⟩
variable {E : Env} (hE : OE E)
include hE
end Go.Proofs.Ytjlkndkedknocaa
namespace Go.Proofs.Ytjlkndkedknocaa
open Go Go.Ai
attribute [local instance] Classical.propDecidable
noncomputable def arcW (n : Nat) (x : Nat → Nat → Int) (s : Nat → Int) (L : Int) : Int := if kindD n x s L ≠ 0 then 0 else arC (dgOf n x s L) + L
noncomputable def arlW (n : Nat) (x : Nat → Nat → Int) (s : Nat → Int) (L : Int) : List Int := if kindD n x s L ≠ 0 then [] else arL (dgOf n x s L)
noncomputable def relW (n : Nat) (x : Nat → Nat → Int) (s : Nat → Int) (L : Int) : List (List Int) := if kindD n x s L ≠ 0 then [] else relL (dgOf n x s L)
def ArcU (h0 : List O) (ws : List Int) (cnt e : Int) (o : Out) (st' : St) : Prop := ∃ v, o = .ret (.tuple #[v, .int .i64 cnt, .int .i64 e]) ∧ Sub h0 st'.h ∧ h0.length ≤ st'.fl ∧ Ints st'.h v ws
def OfU (h0 : List O) (A : List (List Int)) (cnt e : Int) (o : Out) (st' : St) : Prop := ∃ v, o = .ret (.tuple #[.agg #[.int .i64 cnt, v], .int .i64 e]) ∧ Sub h0 st'.h ∧ h0.length ≤ st'.fl ∧ Mat st'.h v A
variable {E : Env} (hE : OE E)
include hE
end Go.Proofs.Ytjlkndkedknocaa
namespace Go.Ai
attribute [local instance] Classical.propDecidable
def clipV (z : Int) : Int := if 1000000000 < z then 0 else if z < -1000000000 then 0 else z
def sumW (w : List Int) (val : Int → Int) : Nat → Int
 | 0 => 0
 | j + 1 => if 0 < nth w j then sumW w val j + val (nth w j) else sumW w val j - val (nth w j)
end Go.Ai
namespace Go.Proofs.Ytjlkndkedknocaa
open Go Go.Ai
attribute [local instance] Classical.propDecidable
noncomputable def arcY (G : Dg) (y : Int) : Int := firstI (fun j => decide ((arN G j : Int) = max y (-y) - 1)) (2 * G.n)
noncomputable def valY (G : Dg) (xs nums : List Int) (y : Int) : Int := clipV (nth nums (nth xs (arcY G y).toNat).toNat)
theorem arcY_at {G : Dg} {y : Int} {a : Nat} (ha : a < 2 * G.n) (hy : max y (-y) = gen G a) : ∃ k : Nat, arcY G y = k ∧ k < 2 * G.n ∧ (arN G k : Int) = max y (-y) - 1 ∧ arN G k = arN G a ∧ ∀ t, t < k → (arN G t : Int) ≠ max y (-y) - 1 := by
 unfold arcY
 have hya : max y (-y) - 1 = arN G a := by rw [hy]; unfold gen; omega
 rcases firstI_cases (fun j => decide ((arN G j : Int) = max y (-y) - 1)) (2 * G.n) with ⟨k, h1, h2, h4, h3⟩ | ⟨h1, _⟩
 ·have := of_decide_eq_true h2
  exact ⟨k, h3, h1, this, by omega, fun t ht => of_decide_eq_false (h4 t ht)⟩
 ·have := h1 a ha
  simp [hya] at this
noncomputable def fixR (r : List Int) : Nat := cntP (fun i => nth r i = i) r.length
variable {E : Env} (hE : OE E)
include hE
end Go.Proofs.Ytjlkndkedknocaa
namespace Go.Ai
attribute [local instance] Classical.propDecidable
noncomputable def sgY (cf : Int → Int) (i y : Int) : Int := if cf y = i then (if 0 < y then 1 else -1) else 0
noncomputable def sgL (cf : Int → Int) (i : Int) : List Int → Int
 | [] => 0
 | y :: w => sgY cf i y + sgL cf i w
theorem sgL_app (cf : Int → Int) (i : Int) (v w : List Int) : sgL cf i (v ++ w) = sgL cf i v + sgL cf i w := by
 induction v with
 | nil => simp [sgL]
 | cons y v ih => simp only [List.cons_append, sgL, ih]; omega
theorem sgL_rep (cf : Int → Int) (i y : Int) : ∀ n : Nat, sgL cf i (List.replicate n y) = n * sgY cf i y := by
 intro n
 induction n with
 | zero => simp [sgL]
 | succ n ih => simp only [List.replicate_succ, sgL, ih, Int.natCast_succ, Int.add_mul, Int.one_mul]; omega
theorem sgL_le (cf : Int → Int) (i : Int) : ∀ w : List Int, -(w.length : Int) ≤ sgL cf i w ∧ sgL cf i w ≤ w.length := by
 intro w
 induction w with
 | nil => simp [sgL]
 | cons y w ih =>
  have : -1 ≤ sgY cf i y ∧ sgY cf i y ≤ 1 := by unfold sgY; split <;> (try split) <;> omega
  simp only [sgL, List.length_cons]
  omega
end Go.Ai
namespace Go.Proofs.Ytjlkndkedknocaa
open Go Go.Ai
attribute [local instance] Classical.propDecidable
noncomputable def compY (G : Dg) (xs : List Int) (y : Int) : Int := nth xs (arcY G y).toNat
section
variable {G : Dg} (hG : GoodG G) (hO : OrbI (2 * G.n) (nx G) (2 * G.n) (cpK G) (cpL G))
include hG hO
theorem compY_at {y : Int} {a : Nat} (ha : a < 2 * G.n) (hy : max y (-y) = gen G a) : compY G (cpL G) y = nth (cpL G) a := by
 obtain ⟨j, h1, _, _, h2, _⟩ := arcY_at ha hy
 unfold compY
 rw [h1, Int.toNat_natCast, arch_comp hG hO h2]
theorem sg_word {f : Nat} (hf : f < 2 * G.n) (i : Int) : ∀ t, sgL (compY G (cpL G)) i (wordT G f t) = sumZ (fun t => phU G (cpL G) i (itr (nx G) f t)) t := by
 intro t
 induction t with
 | zero => rfl
 | succ t ih =>
  simp only [wordT, sumZ]
  rw [sgL_app, ih]
  congr 1
  have ha := (nx_perm hG).itr_lt hf t
  obtain ⟨a, hae⟩ : ∃ a, a = itr (nx G) f t := ⟨_, rfl⟩
  rw [← hae] at ha ⊢
  have t2 := (hG.T a ha).2.2.1
  unfold wordP phU finT
  simp only
  by_cases h0 : G.T a 3 = 0
  ·rw [if_pos h0, if_pos h0]
   have hx := hG.X _ 1 t2 (by omega)
   have hg := gen_le hG t2 (show 1 < 4 by omega)
   have hc : compY G (cpL G) (gen G (G.X (G.T a 2) 1) * G.s (G.T a 2)) = nth (cpL G) (G.X (G.T a 2) 1) := compY_at hG hO hx (by rcases hG.sign _ t2 with e | e <;> rw [e] <;> omega)
   simp only [sgL, sgY, hc, Int.add_zero]
   unfold ovr
   split
   ·rcases hG.sign _ t2 with e | e <;> rw [e]
    ·rw [if_pos (by omega)]
    ·rw [if_neg (by omega)]
   ·rfl
  ·rw [if_neg h0, if_neg h0]; rfl
omit hG hO in
theorem own_sum (k : Int) (f : Nat) : ∀ t, ownT G k f t = sumZ (fun t => phU G (cpL G) k (itr (nx G) f t)) t := by
 intro t
 induction t with
 | zero => rfl
 | succ t ih =>
  simp only [ownT, sumZ, ih]
  congr 1
  unfold ownP phU ovr finT
  simp only
  by_cases h0 : G.T (itr (nx G) f t) 3 = 0
  ·by_cases h1 : nth (cpL G) (G.X (G.T (itr (nx G) f t) 2) 1) = k
   ·rw [if_pos ⟨h0, h1⟩, if_pos h0, if_pos h1]
   ·rw [if_neg (fun h => h1 h.2), if_pos h0, if_neg h1]
  ·rw [if_neg (fun h => h0 h.1), if_neg h0]
omit hG hO in
theorem fst_comp {k : Int} (h : 0 ≤ fstA G k) : (fstA G k).toNat < 2 * G.n ∧ nth (cpL G) (fstA G k).toNat = k := by
 unfold fstA at h ⊢
 rcases firstI_cases (fun j => decide (nth (cpL G) j = k)) (2 * G.n) with ⟨j, h1, h2, _, h3⟩ | ⟨_, h3⟩
 ·rw [h3]
  exact ⟨by omega, of_decide_eq_true h2⟩
 ·omega
theorem lon_sum (hP : PlanG G) {k : Int} (h : 0 ≤ fstA G k) (i : Int) : (i = k → sgL (compY G (cpL G)) i (lonD G k) = 0) ∧ (i ≠ k → 2 * sgL (compY G (cpL G)) i (lonD G k) = lnkZ G (cpL G) k i) := by
 obtain ⟨hf, hk⟩ := fst_comp h
 obtain ⟨f, hfe⟩ : ∃ f, f = (fstA G k).toNat := ⟨_, rfl⟩
 have hm : merD G k = gen G f := by unfold merD gen; rw [if_pos h, hfe]
 rw [← hfe] at hf hk
 have hc1 : compY G (cpL G) (gen G f) = k := by rw [compY_at hG hO hf (by unfold gen; omega), hk]
 have hc2 : compY G (cpL G) (-(gen G f)) = k := by rw [compY_at hG hO hf (by unfold gen; omega), hk]
 have hlon : lonD G k = wordT G f (perA G f) ++ List.replicate (lonS G k).toNat (-(gen G f)) ++ List.replicate (-(lonS G k)).toNat (gen G f) := by unfold lonD; rw [if_pos h, hm, hfe]
 have hown : lonS G k = sumZ (fun t => phU G (cpL G) k (itr (nx G) f t)) (perA G f) := by unfold lonS; rw [← hfe, own_sum]
 have hg1 : 0 < gen G f := by unfold gen; omega
 rw [hlon, sgL_app, sgL_app, sgL_rep, sgL_rep, sg_word hG hO hf]
 constructor
 ·rintro rfl
  unfold sgY
  rw [hc1, hc2, if_pos rfl, if_pos rfl, if_pos hg1, if_neg (by omega), ← hown]
  omega
 ·intro hne
  unfold sgY
  rw [hc1, hc2, if_neg (fun e => hne e.symm), if_neg (fun e => hne e.symm)]
  have := link_walk hG hO hP hf (i := i) (by rw [hk]; exact hne)
  rw [hk] at this
  rw [this]
  omega
end
section
variable {G : Dg} (hG : GoodG G) {N : Nat} {A : List (List Int)} (hw : ∀ c, c < G.n → wordS N A (relOf G c) = Gp.e)
include hG hw
theorem lab_next {a : Nat} (ha : a < 2 * G.n) : labS G N A a * wordS N A (wordP G (finT G a)) = wordS N A (wordP G (finT G a)) * labS G N A (nx G a) := by
 unfold wordP finT
 simp only
 rcases next_cases hG ha with ⟨h0, h1, h2⟩ | ⟨h0, h⟩
 ·rw [if_pos h0, wordS_cons, show wordS N A [] = Gp.e from rfl, Gp.mul_e]
  have t2 := (hG.T a ha).2.2.1
  rw [h1]
  rcases (rel_conj hG t2).1 (hw _ t2) with ⟨e, e2⟩ | ⟨e, e2⟩
  ·rw [e, Int.mul_one, letS_pos, e2, ← h2, ← Gp.assoc, ← Gp.assoc, Gp.mul_inv, Gp.e_mul]
  ·rw [e, show gen G (G.X (G.T a 2) 1) * -1 = -(gen G (G.X (G.T a 2) 1)) by omega, letS_neg, e2, ← h2, ← Gp.assoc, ← Gp.assoc, Gp.inv_mul, Gp.e_mul]
 ·rw [if_neg h0, show wordS N A [] = Gp.e from rfl, Gp.mul_e, Gp.e_mul]
  unfold labS
  rw [h]
theorem lab_walk {f : Nat} (hf : f < 2 * G.n) : ∀ t, labS G N A f * wordS N A (wordT G f t) = wordS N A (wordT G f t) * labS G N A (itr (nx G) f t) := by
 intro t
 induction t with
 | zero => rw [show wordS N A (wordT G f 0) = Gp.e from rfl, Gp.mul_e, Gp.e_mul]; rfl
 | succ t ih =>
  have := lab_next hG hw ((nx_perm hG).itr_lt hf t)
  simp only [wordT]
  rw [wordS_app, ← Gp.assoc, ih, Gp.assoc, this, ← Gp.assoc]
  rfl
omit hG hw in
theorem rep_comm {y : Int} {a : Sy} (h : a * letS N A y = letS N A y * a) : ∀ n, a * wordS N A (List.replicate n y) = wordS N A (List.replicate n y) * a := by
 intro n
 induction n with
 | zero => rw [show wordS N A (List.replicate 0 y) = Gp.e from rfl, Gp.mul_e, Gp.e_mul]
 | succ n ih => rw [List.replicate_succ, wordS_cons, ← Gp.assoc, h, Gp.assoc, ih, Gp.assoc]
theorem lon_comm (k : Int) : wordS N A [merD G k] * wordS N A (lonD G k) = wordS N A (lonD G k) * wordS N A [merD G k] := by
 by_cases h : 0 ≤ fstA G k
 ·obtain ⟨hf, _⟩ := fst_comp h
  obtain ⟨f, hfe⟩ : ∃ f, f = (fstA G k).toNat := ⟨_, rfl⟩
  have hm : merD G k = gen G f := by unfold merD gen; rw [if_pos h, hfe]
  rw [← hfe] at hf
  have hlon : lonD G k = wordT G f (perA G f) ++ List.replicate (lonS G k).toNat (-(gen G f)) ++ List.replicate (-(lonS G k)).toNat (gen G f) := by unfold lonD; rw [if_pos h, hm, hfe]
  have hwk := lab_walk hG hw hf (perA G f)
  rw [(perA_spec hG hf).1.2.1] at hwk
  have ha : wordS N A [merD G k] = labS G N A f := by rw [hm, wordS_cons, show wordS N A [] = Gp.e from rfl, Gp.mul_e, letS_pos]
  have c1 := rep_comm (N := N) (A := A) (y := gen G f) (a := labS G N A f) (by rw [letS_pos]) (-(lonS G k)).toNat
  have c2 := rep_comm (N := N) (A := A) (y := -(gen G f)) (a := labS G N A f) (by rw [letS_neg, Gp.mul_inv, Gp.inv_mul]) (lonS G k).toNat
  rw [ha, hlon, wordS_app, wordS_app, ← Gp.assoc, ← Gp.assoc, hwk, Gp.assoc (wordS N A (wordT G f (perA G f))), c2, Gp.assoc, Gp.assoc, c1, Gp.assoc, Gp.assoc]
 ·have : lonD G k = [] := by unfold lonD; rw [if_neg h]
  rw [this, show wordS N A [] = Gp.e from rfl, Gp.mul_e, Gp.e_mul]
end
end Go.Proofs.Ytjlkndkedknocaa
namespace Go.Proofs.Ytjlkndkedknocaa
open Go Go.Ai
attribute [local instance] Classical.propDecidable
theorem word_arc {G : Dg} (hG : GoodG G) {f : Nat} (hf : f < 2 * G.n) : ∀ t, ∀ y ∈ wordT G f t, ∃ a, a < 2 * G.n ∧ max y (-y) = gen G a := by
 intro t
 induction t with
 | zero => intro y hy; simp [wordT] at hy
 | succ t ih =>
  intro y hy
  simp only [wordT, List.mem_append] at hy
  rcases hy with hy | hy
  ·exact ih y hy
  ·unfold wordP at hy
   split at hy
   ·simp at hy
    have t2 := (hG.T _ ((nx_perm hG).itr_lt hf t)).2.2.1
    have e : (finT G (itr (nx G) f t)).1 = G.T (itr (nx G) f t) 2 := rfl
    rw [e] at hy
    have hg := gen_le hG t2 (show 1 < 4 by omega)
    refine ⟨_, hG.X _ 1 t2 (by omega), ?_⟩
    rcases hG.sign _ t2 with h | h <;> rw [h] at hy <;> omega
   ·simp at hy
theorem lon_arc {G : Dg} (hG : GoodG G) {k : Int} : ∀ y ∈ lonD G k, ∃ a, a < 2 * G.n ∧ max y (-y) = gen G a := fun y hy => by
 unfold lonD at hy
 split at hy
 ·rename_i h
  obtain ⟨hf, _⟩ := fst_comp h
  have hm : merD G k = gen G (fstA G k).toNat := by unfold merD gen; rw [if_pos h]
  have hg : 0 < gen G (fstA G k).toNat := by unfold gen; omega
  rw [hm] at hy
  simp only [List.mem_append, List.mem_replicate] at hy
  rcases hy with (hy | ⟨_, rfl⟩) | ⟨_, rfl⟩
  ·exact word_arc hG hf _ y hy
  ·exact ⟨_, hf, by omega⟩
  ·exact ⟨_, hf, by omega⟩
 ·simp at hy
theorem lon_len {G : Dg} (hG : GoodG G) {k : Int} : (lonD G k).length ≤ 1000 := by
 unfold lonD
 split
 ·rename_i h
  obtain ⟨hf, _⟩ := fst_comp h
  have h1 := wordT_len G (fstA G k).toNat (perA G (fstA G k).toNat)
  have h2 := ownT_le hG (k := k) hf (perA G (fstA G k).toNat)
  have h3 := (perA_spec hG hf).1.2.2
  have h4 := hG.size
  have h5 : lonS G k = ownT G k (fstA G k).toNat (perA G (fstA G k).toNat) := rfl
  rw [← h5] at h2
  simp only [List.length_append, List.length_replicate]
  omega
 ·simp
theorem mer_le {G : Dg} (hG : GoodG G) {k : Int} (hk : 0 ≤ k ∧ k < cpK G + G.L) (hO : OrbI (2 * G.n) (nx G) (2 * G.n) (cpK G) (cpL G)) : 1 ≤ merD G k ∧ merD G k ≤ arC G + G.L := by
 unfold merD
 split
 ·rename_i h
  obtain ⟨hf, _⟩ := fst_comp h
  have := arN_lt (G := G) hf
  have := hG.loops
  omega
 ·rename_i h
  have hkK : (cpK G : Int) ≤ k := by
   rcases Int.lt_or_le k (cpK G) with hl | hl
   ·obtain ⟨a, h1, h2, _⟩ := hO.ord k.toNat (by omega)
    exfalso
    apply h
    unfold fstA
    rcases firstI_cases (fun j => decide (nth (cpL G) j = k)) (2 * G.n) with ⟨j, _, _, _, h3⟩ | ⟨h4, _⟩
    ·omega
    ·have := h4 a h1
     simp only [decide_eq_false_iff_not] at this
     exact absurd (by rw [h2]; omega) this
   ·exact hl
  omega
variable {E : Env} (hE : OE E)
include hE
theorem linking_ {h0 : List O} {a : Option Addr} {n c : Nat} {x : Nat → Nat → Int} {s : Nat → Int} {L : Int} (hx : CrossP h0 a n x s) (hS : Snd n x s L) (k i : Int) :
  DR E 71 [dV a n c L, .int .i64 k, .int .i64 i] ⟨h0, h0.length⟩ (.ret (.int .i64 (lnkZ (dgOf n x s L) (cpL (dgOf n x s L)) k i))) ⟨h0, h0.length⟩ := by
 refine hE.fn (body := rb71) rfl ?_
 unfold rb71
 have hsc : ∀ b : Int, (Out.ret (.int .i64 b)).scalar = true := fun _ => rfl
 obtain ⟨h1, hh1⟩ : ∃ H, H = h0 ++ [O.cells [.slice a n c, .int .i64 L] 24 (some 0)] := ⟨_, rfl⟩
 have l1 : h1.length = h0.length + 1 := by rw [hh1]; simp
 have s1 : Sub h0 h1 := by rw [hh1]; exact (Sub.refl _).app _
 have b0 : h1[h0.length]? = some (O.cells [.slice a n c, .int .i64 L] 24 (some 0)) := by rw [hh1, app_at0]; rfl
 have hx1 := hx.sub s1
 have hof := of_ hE (c := c) (L := L) hx1 hS
 obtain ⟨G, hGe⟩ : ∃ G, G = dgOf n x s L := ⟨_, rfl⟩
 have hG : GoodG G := by rw [hGe]; exact good_of hS
 have hGn : G.n = n := by rw [hGe]; rfl
 have hGs : G.s = s := by rw [hGe]; rfl
 have hsz := hG.size
 rw [← hGe] at hof ⊢
 simp only [dV] at hof ⊢
 simp [← hh1, rdN_def, b0]
 refine hof.imp ?_
 rintro o ⟨h2, f2⟩ ⟨xs, k2, rfl, hf2, s2, hxs, hO, _⟩
 simp only at hf2 s2 hxs
 unfold AtB at hxs
 have hO2 : OrbI (2 * G.n) (nx G) (2 * G.n) k2 xs := by rw [hGn]; exact hO
 obtain ⟨hxe, _⟩ := cp_eq hO2
 have hxl : xs.length = 2 * n := hO.len
 have b2 := s2 _ _ b0
 obtain ⟨xb, xo, hxa, hxr⟩ := hx1.sub s2
 have hXx : ∀ c q, c < n → q < 4 → x c q = (G.X c q : Int) := fun c q hc hq => by rw [hGe]; exact sound_x hS hc hq
 obtain ⟨P, hP⟩ : ∃ P, P = h1.length + 1 := ⟨_, rfl⟩
 rw [← hP] at hxs
 rw [← hxe]
 simp [joined_fl, hf2]
 rw [← hP]
 obtain ⟨F, hF⟩ : ∃ F : Nat → Int, F = fun c => if (nth xs (G.X c 0) = k ∧ nth xs (G.X c 1) = i) ∨ (nth xs (G.X c 0) = i ∧ nth xs (G.X c 1) = k) then G.s c else 0 := ⟨_, rfl⟩
 have hFb : ∀ j : Nat, j ≤ n → -(j : Int) ≤ sumZ F j ∧ sumZ F j ≤ j := by
  intro j
  induction j with
  | zero => intro _; simp [sumZ]
  | succ j ih =>
   intro hj
   have h1 := ih (by omega)
   have h2 : -1 ≤ F j ∧ F j ≤ 1 := by
    rw [hF]
    simp only
    split
    ·rcases hG.sign j (by omega) with e | e <;> rw [e] <;> omega
    ·omega
   simp only [sumZ]
   omega
 have hlk : lnkZ G xs k i = sumZ F n := by unfold lnkZ; rw [hGn, hF]
 rw [hlk]
 refine DW_loop (fun kk fr st => ∃ (j : Nat), j + kk = n ∧ st = ⟨h2, h0.length⟩ ∧ get fr 1 = .int .i64 k ∧ get fr 2 = .int .i64 i ∧ get fr 3 = .pointer (some ⟨h0.length, 0, none⟩) ∧ get fr 7 = .slice (some ⟨P, 0, none⟩) (2 * n) (2 * n) ∧ get fr 8 = .int .i64 (sumZ F j) ∧ get fr 9 = .int .i64 j) ?_ (k := n) ?_
 ·rintro kk fr st ⟨j, hjk, rfl, g1, g2, g3, g7, g8, g9⟩
  by_cases hj : j < n
  ·have hj' : (j : Int) < n := by omega
   have hwj : IntKind.i64.wrap ((j : Int) + 1) = (j : Int) + 1 := by rw [w64_id] <;> omega
   obtain rfl := hxa (by omega)
   obtain ⟨rq, rs⟩ := CrossP.reads hxr hj
   have r0 := rq 0 (by omega)
   have r1 := rq 1 (by omega)
   rw [hXx j 0 hj (by omega), Nat.add_zero, rd_def] at r0
   rw [hXx j 1 hj (by omega), rd_def] at r1
   rw [rd_def] at rs
   have x0 : G.X j 0 < 2 * n := by rw [← hGn]; exact hG.X j 0 (by omega) (by omega)
   have x1 : G.X j 1 < 2 * n := by rw [← hGn]; exact hG.X j 1 (by omega) (by omega)
   have gx0 : (intsC xs)[G.X j 0]? = some (.int .i64 (nth xs (G.X j 0))) := intsC_get (by omega)
   have gx1 : (intsC xs)[G.X j 1]? = some (.int .i64 (nth xs (G.X j 1))) := intsC_get (by omega)
   have x0' : (G.X j 0 : Int) < 2 * n := by omega
   have x1' : (G.X j 1 : Int) < 2 * n := by omega
   have hb := hFb j (by omega)
   have hws : IntKind.i64.wrap (sumZ F j + s j) = sumZ F j + s j := by
    rcases hS.sign j hj with e | e <;> rw [e] <;> rw [w64_id] <;> omega
   have hFj : F j = if (nth xs (G.X j 0) = k ∧ nth xs (G.X j 1) = i) ∨ (nth xs (G.X j 0) = i ∧ nth xs (G.X j 1) = k) then s j else 0 := by rw [hF, hGs]
   obtain ⟨u, hu⟩ : ∃ u, u = nth xs (G.X j 0) := ⟨_, rfl⟩
   obtain ⟨v, hv⟩ : ∃ u, u = nth xs (G.X j 1) := ⟨_, rfl⟩
   rw [← hu] at gx0 hFj
   rw [← hv] at gx1 hFj
   by_cases c1 : u = k
   ·by_cases c2 : v = i
    ·rw [if_pos (.inl ⟨c1, c2⟩)] at hFj
     simp [g1, g2, g3, g7, g8, g9, hj, hj', rd_def, ↓b2, r0, r1, rs, x0, x1, x0', x1', ↓hxs, gx0, gx1, c1, c2, bit, hws, hwj]
     exact ⟨kk - 1, by omega, j + 1, by omega, by simp only [sumZ]; rw [hFj], by omega⟩
    ·by_cases c3 : u = i
     ·by_cases c4 : v = k
      ·exact absurd (by rw [c4, ← c1, c3]) c2
      ·rw [if_neg (fun h => h.elim (fun h => c2 h.2) (fun h => c4 h.2)), ] at hFj
       have c3' : k = i := by rw [← c1, c3]
       have c2' : ¬ v = k := c4
       simp [g1, g2, g3, g7, g8, g9, hj, hj', rd_def, ↓b2, r0, r1, rs, x0, x1, x0', x1', ↓hxs, gx0, gx1, c1, c2, c3', bit, hwj]
       exact ⟨kk - 1, by omega, j + 1, by omega, by simp only [sumZ]; rw [hFj]; omega, by omega⟩
     ·rw [if_neg (fun h => h.elim (fun h => c2 h.2) (fun h => c3 h.1))] at hFj
      have c3' : ¬ k = i := fun e => c3 (by rw [c1, e])
      simp [g1, g2, g3, g7, g8, g9, hj, hj', rd_def, ↓b2, r0, r1, rs, x0, x1, x0', x1', ↓hxs, gx0, gx1, c1, c2, c3', bit, hwj]
      exact ⟨kk - 1, by omega, j + 1, by omega, by simp only [sumZ]; rw [hFj]; omega, by omega⟩
   ·by_cases c3 : u = i
    ·by_cases c4 : v = k
     ·rw [if_pos (.inr ⟨c3, c4⟩)] at hFj
      have c1' : ¬ i = k := fun e => c1 (by rw [c3, e])
      simp [g1, g2, g3, g7, g8, g9, hj, hj', rd_def, ↓b2, r0, r1, rs, x0, x1, x0', x1', ↓hxs, gx0, gx1, c3, c4, c1', bit, hws, hwj]
      exact ⟨kk - 1, by omega, j + 1, by omega, by simp only [sumZ]; rw [hFj], by omega⟩
     ·rw [if_neg (fun h => h.elim (fun h => c1 h.1) (fun h => c4 h.2))] at hFj
      have c1' : ¬ i = k := fun e => c1 (by rw [c3, e])
      simp [g1, g2, g3, g7, g8, g9, hj, hj', rd_def, ↓b2, r0, r1, rs, x0, x1, x0', x1', ↓hxs, gx0, gx1, c3, c4, c1', bit, hwj]
      exact ⟨kk - 1, by omega, j + 1, by omega, by simp only [sumZ]; rw [hFj]; omega, by omega⟩
    ·rw [if_neg (fun h => h.elim (fun h => c1 h.1) (fun h => c3 h.1))] at hFj
     simp [g1, g2, g3, g7, g8, g9, hj, hj', rd_def, ↓b2, r0, r1, rs, x0, x1, x0', x1', ↓hxs, gx0, gx1, c1, c3, bit, hwj]
     exact ⟨kk - 1, by omega, j + 1, by omega, by simp only [sumZ]; rw [hFj]; omega, by omega⟩
  ·have hjn : j = n := by omega
   have hj' : ¬ (j : Int) < n := by omega
   subst hjn
   simp [g1, g2, g3, g7, g8, g9, rd_def, ↓b2, endK_ret, back, hsc]
 ·exact ⟨0, by omega, rfl, by simp [sumZ]⟩
end Go.Proofs.Ytjlkndkedknocaa
namespace Go.Proofs.Ytjlkndkedknocaa
open Go Go.Ai
attribute [local instance] Classical.propDecidable
theorem lonE_zero {n : Nat} {x : Nat → Nat → Int} {s : Nat → Int} {L k : Int} (h : lonE n x s L k = 0) : kindD n x s L = 0 ∧ (0 ≤ k ∧ k < cpK (dgOf n x s L) + L) := by
 unfold lonE at h
 by_cases h1 : kindD n x s L ≠ 0
 ·rw [if_pos h1] at h; exact absurd h h1
 ·rw [if_neg h1] at h
  by_cases h2 : 0 ≤ k ∧ k < cpK (dgOf n x s L) + L
  ·exact ⟨by simpa using h1, h2⟩
  ·rw [if_neg h2] at h; exact absurd h (by decide)
theorem lon_sums {G : Dg} (hG : GoodG G) (hO : OrbI (2 * G.n) (nx G) (2 * G.n) (cpK G) (cpL G)) (hP : PlanG G) (k i : Int) : (i = k → sgL (compY G (cpL G)) i (lonD G k) = 0) ∧ (i ≠ k → 2 * sgL (compY G (cpL G)) i (lonD G k) = lnkZ G (cpL G) k i) := by
 by_cases h : 0 ≤ fstA G k
 ·exact lon_sum hG hO hP h i
 ·have hl : lonD G k = [] := by unfold lonD; rw [if_neg h]
  have hn : ∀ a, a < 2 * G.n → nth (cpL G) a ≠ k := fun a ha e => h (by
   unfold fstA
   rcases firstI_cases (fun j => decide (nth (cpL G) j = k)) (2 * G.n) with ⟨j, _, _, _, h3⟩ | ⟨h4, _⟩
   ·omega
   ·have := h4 a ha
    simp only [decide_eq_false_iff_not] at this
    exact absurd e this)
  rw [hl]
  refine ⟨fun _ => rfl, fun _ => ?_⟩
  unfold lnkZ
  rw [sumZ_zero fun c hc => if_neg (fun h => h.elim (fun h => hn _ (hG.X c 0 hc (by omega)) h.1) (fun h => hn _ (hG.X c 1 hc (by omega)) h.2))]
  rfl
set_option maxHeartbeats 2000000 in
theorem law12 {E : Env} (hW : WE E) {h0 : List O} {a : Option Addr} {n c : Nat} {x : Nat → Nat → Int} {s : Nat → Int} {L k : Int} {vA : Value} {A : List (List Int)} (hx : CrossP h0 a n x s) (hA : Mat h0 vA A) (hrows : ∀ i, i < A.length → (nthR A i).length * 8 ≤ roomMax) :
  DR E 12 [dV a n c L, .int .i64 k, vA] ⟨h0, h0.length⟩ (.ret (.bool true)) ⟨h0, h0.length⟩ := by
 have hE := hW.oe
 refine hE.fn (body := rb12) rfl ?_
 unfold rb12
 have hsc : (Out.ret (.bool true)).scalar = true := rfl
 obtain ⟨va, vb, vo, vc, vs, rfl, ha, hvr, hvl⟩ := mat_at hA
 obtain ⟨h1, hh1⟩ : ∃ H, H = h0 ++ [O.cells [.slice a n c, .int .i64 L] 24 (some 0)] := ⟨_, rfl⟩
 have s1 : Sub h0 h1 := by rw [hh1]; exact (Sub.refl _).app _
 have l1 : h1.length = h0.length + 1 := by rw [hh1]; simp
 have b1 : h1[h0.length]? = some (O.cells [.slice a n c, .int .i64 L] 24 (some 0)) := by rw [hh1, app_at0]; rfl
 have hj1 : joined ⟨h1, h0.length⟩ ⟨h1, h1.length⟩ = ⟨h1, h0.length⟩ := joined_mk _ _
 have q56 := saneW_ hW (h0 := h1)
 by_cases hn : 30 < n
 ·have hn' : 30 < (n : Int) := by omega
  simp [dV, ← hh1, rd_def, b1, hn, hn', DC_of q56, hj1, endK_ret, back, hsc]
 have hn' : ¬ 30 < (n : Int) := by omega
 by_cases hA100 : 100 < A.length
 ·have hA100' : 100 < (A.length : Int) := by omega
  simp [dV, ← hh1, rd_def, b1, hn, hn', hA100, hA100', DC_of q56, hj1, endK_ret, back, hsc]
 have hA100' : ¬ 100 < (A.length : Int) := by omega
 have hx1 := hx.sub s1
 have hm1 := meridianU_ hE (c := c) (L := L) hx1 k
 have hl1 := longitudeU_ hE hW.walk (c := c) (L := L) hx1 k
 obtain ⟨mm, hmm⟩ : ∃ mm, mm = merW n x s L k := ⟨_, rfl⟩
 obtain ⟨le, hle⟩ : ∃ le, le = lonE n x s L k := ⟨_, rfl⟩
 obtain ⟨lw, hlw⟩ : ∃ lw, lw = lonW n x s L k := ⟨_, rfl⟩
 rw [← hmm, ← hle] at hm1
 rw [← hlw, ← hle] at hl1
 simp only [dV] at hm1 hl1
 simp [dV, ← hh1, rd_def, b1, hn, hn', hA100, hA100', rdN_def, DC_of hm1, hj1]
 refine hl1.imp ?_
 rintro o ⟨h2, f2⟩ ⟨v2, rfl, s2, hf2, hI2⟩
 simp only at s2 hf2 hI2
 have l2 := s2.len
 have b2 := s2 _ _ b1
 have r56 := saneW_ hW (h0 := h2)
 have hj2 : joined ⟨h2, h0.length⟩ ⟨h2, h2.length⟩ = ⟨h2, h0.length⟩ := joined_mk _ _
 by_cases hz : le = 0
 ·subst hz
  obtain ⟨hk0, hin⟩ := lonE_zero hle.symm
  obtain ⟨hS, hPl⟩ := kind_zero hk0
  obtain ⟨G, hGe⟩ : ∃ G, G = dgOf n x s L := ⟨_, rfl⟩
  have hG : GoodG G := by rw [hGe]; exact good_of hS
  have hGn : G.n = n := by rw [hGe]; rfl
  have hGL : G.L = L := by rw [hGe]; rfl
  have hloops := hG.loops
  rw [hGL] at hloops
  have hlw1 : lw = lonD G k := by rw [hlw, hGe]; unfold lonW; rw [if_neg (by simp [hk0]), if_pos hin]
  have hmm1 : mm = merD G k := by rw [hmm, hGe]; unfold merW; rw [if_neg (by simp [hk0]), if_pos hin]
  rw [← hGe] at hPl hin
  rw [hlw1] at hI2
  have har := archesR_ hE (c := c) (L := L) (hx1.sub s2) hS
  rw [← hGe] at har
  simp only [dV] at har
  simp [joined_fl, hf2, ↓b2, rdN_def]
  refine har.imp ?_
  rintro o ⟨h3, f3⟩ ⟨ab, rfl, s3, hf3, _, hab⟩
  simp only at s3 hf3 hab
  have b3 := s3 _ _ b2
  have hx3 := (hx1.sub s2).sub s3
  have hof3 := of_ hE (c := c) (L := L) hx3 hS
  simp only [dV] at hof3
  simp [joined_fl, hf3, ↓b3, rdN_def]
  refine hof3.imp ?_
  rintro o ⟨h4, f4⟩ ⟨xs, k4, rfl, hf4, s4, hxs, hO, hk4⟩
  simp only at hf4 s4 hxs
  unfold AtB at hxs
  rw [← hGe] at hO
  have hO2 : OrbI (2 * G.n) (nx G) (2 * G.n) k4 xs := by rw [hGn]; exact hO
  obtain ⟨hxe, hke⟩ := cp_eq hO2
  have hOc : OrbI (2 * G.n) (nx G) (2 * G.n) (cpK G) (cpL G) := by rw [← hxe, ← hke]; exact hO2
  have b4 := s4 _ _ b3
  have hx4 := hx3.sub s4
  have hct := count_ hE (c := c) (L := L) hx4 hS
  rw [← hGe] at hct
  simp only [dV] at hct
  simp [joined_fl, hf4, ↓b4, rdN_def]
  refine hct.imp ?_
  rintro o st ⟨xs', k1, hO', hk1, rfl, rfl⟩
  have hO2' : OrbI (2 * G.n) (nx G) (2 * G.n) k1 xs' := by rw [hGn]; exact hO'
  obtain ⟨_, hkk2'⟩ := cp_eq hO2'
  rw [← hkk2'] at hin
  obtain ⟨T, hT⟩ : ∃ T : Nat, (k1 : Int) + L = T := ⟨((k1 : Int) + L).toNat, by omega⟩
  have hT600 : T ≤ 600 := by omega
  obtain ⟨P1, hP1⟩ : ∃ P1, P1 = h3.length + 1 := ⟨_, rfl⟩
  rw [← hP1] at hxs ⊢
  have hal : (arL G).length = 2 * n := by unfold arL; rw [tabL_length, hGn]
  have hxl : xs.length = 2 * n := hO.len
  obtain ⟨M, hMn⟩ : ∃ M, M = 2 * n := ⟨_, rfl⟩
  have hj4 : joined ⟨h4, h0.length⟩ ⟨h4, h4.length⟩ = ⟨h4, h0.length⟩ := joined_mk _ _
  have hmer := mer_le hG (k := k) (by rw [hGL, ← hkk2']; exact hin) hOc
  rw [hGL, ← hmm1] at hmer
  have hac := arC_le G
  obtain ⟨nn, hnn⟩ : ∃ nn : Nat, (arC G : Int) + L = nn := ⟨((arC G : Int) + L).toNat, by omega⟩
  have hnn600 : nn ≤ 600 := by omega
  have e0 : (0 : Int) ≤ T := by omega
  have e1 : (T : Int) * 8 ≤ 140737488355328 := by omega
  have e2 : (T : Int) < 4611686018427387904 := by omega
  have m1 : ¬ mm < 1 := by omega
  have m2 : ¬ (nn : Int) < mm := by omega
  rw [hT]
  obtain ⟨la, lb, lo, lc, rfl, hla, hlr, hll⟩ := ints_at hI2
  obtain ⟨l, hl⟩ : ∃ l, l = lonD G k := ⟨_, rfl⟩
  rw [← hl] at hI2 hlr hla hll ⊢
  have hlarc : ∀ y ∈ l, ∃ a, a < 2 * G.n ∧ max y (-y) = gen G a := by rw [hl]; exact lon_arc hG
  have hllen : l.length ≤ 1000 := by rw [hl]; exact lon_len hG
  obtain ⟨S, hSe⟩ : ∃ S, S = h4.length := ⟨_, rfl⟩
  obtain ⟨h5, hh5⟩ : ∃ H, H = h4 ++ [O.cells (rep T [Value.int .i64 0]) 3 (some 0)] := ⟨_, rfl⟩
  have s5 : Sub h4 h5 := by rw [hh5]; exact (Sub.refl _).app _
  have hS5 : h5[S]? = some (O.cells (intsC (List.replicate T 0)) 3 (some 0)) := by rw [hh5, hSe, app_at0]; simp [rep, intsC]
  have s24 := s3.trans s4
  simp [hj4, e0, e1, e2, hnn, m1, m2, ↓← hh5]
  rw [← hSe]
  obtain ⟨cf, hcf⟩ : ∃ cf, cf = compY G (cpL G) := ⟨_, rfl⟩
  have hsS : h0.length ≤ S := by have := s24.len; omega
  have hmS : min h0.length S = h0.length := by omega
  refine DW_loop (fun kk fr st => ∃ (j : Nat) (h : List O) (zs : List Int), j + kk = l.length ∧ st = ⟨h, h0.length⟩ ∧ Sub h4 h ∧ AtB h S (O.cells (intsC zs) 3 (some 0)) ∧ zs.length = T ∧ (∀ i : Nat, i < T → nth zs i = sgL cf i (l.take j)) ∧ get fr 1 = .int .i64 k ∧ get fr 2 = .slice va A.length vc ∧ get fr 3 = .pointer (some ⟨h0.length, 0, none⟩) ∧ get fr 7 = .int .i64 mm ∧ get fr 9 = .slice la l.length lc ∧ get fr 11 = .slice (some ⟨ab, 0, none⟩) M M ∧ get fr 12 = .int .i64 nn ∧ get fr 13 = .slice (some ⟨P1, 0, none⟩) M M ∧ get fr 14 = .int .i64 T ∧ get fr 15 = .slice (some ⟨S, 0, none⟩) T T ∧ get fr 70 = .slice la l.length lc ∧ get fr 71 = .int .i64 l.length ∧ get fr 72 = .int .i64 j) ?_ (k := l.length) ?_
  ·rintro kk fr st ⟨j, h, zs, hjk, rfl, hs, hSb, hzl, hzs, g1, g2, g3, g7, g9, g11, g12, g13, g14, g15, g70, g71, g72⟩
   unfold AtB at hSb
   have ga : ∀ i, i < M → (intsC (arL G))[i]? = some (.int .i64 (arN G i)) := fun i hi => by
    rw [intsC_get (by omega)]
    unfold arL
    rw [tabL_nth (by rw [hGn]; omega)]
   have gx : ∀ i, i < M → (intsC xs)[i]? = some (.int .i64 (nth xs i)) := fun i hi => intsC_get (by omega)
   have habh := hs _ _ (s4 _ _ hab)
   have hxsh := hs _ _ hxs
   have bh := hs _ _ b4
   by_cases hj : j < l.length
   ·have hwj : IntKind.i64.wrap ((j : Int) + 1) = (j : Int) + 1 := by rw [w64_id] <;> omega
    obtain rfl := hla (by omega)
    have hlj := Ai.Sub.rdO (s24.trans hs) (hlr j hj)
    obtain ⟨y, hy⟩ : ∃ y, y = nth l j := ⟨_, rfl⟩
    rw [← hy] at hlj
    have hyl : y ∈ l := by rw [hy]; exact nth_mem hj
    obtain ⟨a1, ha1, hya⟩ := hlarc y hyl
    have hga := arN_lt (G := G) ha1
    have hgen : gen G a1 = (arN G a1 : Int) + 1 := rfl
    have hcy : cf y = nth xs a1 := by rw [hcf, compY_at hG hOc ha1 hya, hxe]
    have hxv := hO2.val a1 ha1
    have hxd := hO2.done a1 ha1
    obtain ⟨cm, hcm⟩ : ∃ cm : Nat, nth xs a1 = cm := ⟨(nth xs a1).toNat, by omega⟩
    have hcmT : cm < T := by omega
    have hmx : (if y < -y then -y else y) = max y (-y) := by split <;> omega
    have hwn : IntKind.i64.wrap (-y) = -y := by rw [w64_id] <;> omega
    obtain ⟨w, hw⟩ : ∃ w, w = max y (-y) := ⟨_, rfl⟩
    rw [← hw] at hya hmx
    have k1' : ¬ w < 1 := by omega
    have k2' : ¬ (nn : Int) < w := by omega
    have hwm : IntKind.i64.wrap (w - 1) = w - 1 := by rw [w64_id] <;> omega
    have hw1 : IntKind.i64.wrap ((T : Int) - nn) = T - nn := by rw [w64_id] <;> omega
    have hw2 : IntKind.i64.wrap ((T : Int) - nn + w) = T - nn + w := by rw [w64_id] <;> omega
    have hw3 : IntKind.i64.wrap ((T : Int) - nn + w - 1) = T - nn + w - 1 := by rw [w64_id] <;> omega
    have hmatch : ∀ t, t < M → (arN G t : Int) = w - 1 → nth xs t = cm := fun t ht e => by
     rw [← hcm, hxe]
     exact arch_comp hG hOc (by omega)
    simp [g1, g2, g3, g7, g9, g11, g12, g13, g14, g15, g70, g71, g72, hj, rd_def, hlj, maxminV, hwn, ← hw, k1', k2', hw1, hw2, hw3]
    refine DW_loop (fun kk' fr st => ∃ (t : Nat) (pv : Int), t + kk' = M ∧ st = ⟨h, h0.length⟩ ∧ ((∃ u, u < t ∧ (arN G u : Int) = w - 1) → pv = cm) ∧ get fr 1 = .int .i64 k ∧ get fr 2 = .slice va A.length vc ∧ get fr 3 = .pointer (some ⟨h0.length, 0, none⟩) ∧ get fr 7 = .int .i64 mm ∧ get fr 9 = .slice (some ⟨lb, lo, none⟩) l.length lc ∧ get fr 11 = .slice (some ⟨ab, 0, none⟩) M M ∧ get fr 12 = .int .i64 nn ∧ get fr 13 = .slice (some ⟨P1, 0, none⟩) M M ∧ get fr 14 = .int .i64 T ∧ get fr 15 = .slice (some ⟨S, 0, none⟩) T T ∧ get fr 17 = .int .i64 y ∧ get fr 18 = .int .i64 w ∧ get fr 19 = .int .i64 pv ∧ get fr 70 = .slice (some ⟨lb, lo, none⟩) l.length lc ∧ get fr 71 = .int .i64 l.length ∧ get fr 72 = .int .i64 j ∧ get fr 93 = .slice (some ⟨ab, 0, none⟩) M M ∧ get fr 94 = .int .i64 M ∧ get fr 95 = .int .i64 t) ?_ (k := M) ?_
    ·clear g1 g2 g3 g7 g9 g11 g12 g13 g14 g15 g70 g71 g72
     rintro kk' fr st ⟨t, pv, htk, rfl, hpv, g1, g2, g3, g7, g9, g11, g12, g13, g14, g15, g17, g18, g19, g70, g71, g72, g93, g94, g95⟩
     by_cases ht : t < M
     ·have hwt : IntKind.i64.wrap ((t : Int) + 1) = (t : Int) + 1 := by rw [w64_id] <;> omega
      by_cases he : (arN G t : Int) = w - 1
      ·have hct := hmatch t ht he
       simp [g1, g2, g3, g7, g9, g11, g12, g13, g14, g15, g17, g18, g19, g70, g71, g72, g93, g94, g95, ht, rd_def, ↓habh, ga t ht, hwm, he, ↓hxsh, gx t ht, hwt, hct]
       exact ⟨kk' - 1, by omega, t + 1, by omega, cm, fun _ _ _ => rfl, rfl, by omega⟩
      ·simp [g1, g2, g3, g7, g9, g11, g12, g13, g14, g15, g17, g18, g19, g70, g71, g72, g93, g94, g95, ht, rd_def, ↓habh, ga t ht, hwm, he, hwt]
       exact ⟨kk' - 1, by omega, t + 1, by omega, pv, fun u hu hue => hpv ⟨u, by
        rcases Nat.lt_or_ge u t with h' | h'
        ·exact h'
        ·obtain rfl : u = t := by omega
         exact absurd hue he, hue⟩, rfl, by omega⟩
     ·have htM : t = M := by omega
      have hpc : pv = cm := hpv ⟨a1, by omega, by omega⟩
      subst hpc
      have hzc : (intsC zs)[cm]? = some (.int .i64 (nth zs cm)) := intsC_get (by omega)
      have hzb := sgL_le cf cm (l.take j)
      have hzv := hzs cm hcmT
      have htl : (l.take j).length ≤ 1000 := by simp; omega
      have hwp : IntKind.i64.wrap (nth zs cm + 1) = nth zs cm + 1 := by rw [w64_id] <;> omega
      have hwq : IntKind.i64.wrap (nth zs cm - 1) = nth zs cm - 1 := by rw [w64_id] <;> omega
      have hcm1 : cm + 1 ≤ T := by omega
      have hcmT' : (cm : Int) < T := by omega
      have htake : l.take (j + 1) = l.take j ++ [y] := by rw [List.take_add_one, List.getElem?_eq_getElem hj, hy, nth_eq hj]; rfl
      have hnew : ∀ v : Int, v = nth zs cm + (if 0 < y then 1 else -1) → ∀ i : Nat, i < T → nth (zs.set cm v) i = sgL cf i (l.take (j + 1)) := fun v hv i hi => by
       rw [htake, sgL_app, nth_set (by omega)]
       have e2 : sgL cf i [y] = if (cm : Int) = i then (if 0 < y then 1 else -1) else 0 := by
        simp only [sgL, sgY, Int.add_zero]
        rw [hcy, hcm]
       rw [e2]
       by_cases e : i = cm
       ·subst e
        rw [if_pos rfl, if_pos rfl, hv, hzv]
       ·rw [if_neg e, if_neg (by omega), hzs i hi]; omega
      by_cases c3 : 0 < y
      ·simp [g1, g2, g3, g7, g9, g11, g12, g13, g14, g15, g17, g18, g19, g70, g71, g72, g93, g94, g95, htM, c3, rd_def, ↓hSb, hzc, hcmT, hcmT', hwp, wrN_def, hzl, intsC_set, hmS, hwj, hcm1]
       exact ⟨kk - 1, by omega, j + 1, by omega, hs.set (by omega) _, _, set_self hSb, by simp [hzl], hnew _ (by rw [if_pos c3]), by omega⟩
      ·simp [g1, g2, g3, g7, g9, g11, g12, g13, g14, g15, g17, g18, g19, g70, g71, g72, g93, g94, g95, htM, c3, rd_def, ↓hSb, hzc, hcmT, hcmT', hwq, wrN_def, hzl, intsC_set, hmS, hwj, hcm1]
       exact ⟨kk - 1, by omega, j + 1, by omega, hs.set (by omega) _, _, set_self hSb, by simp [hzl], hnew _ (by rw [if_neg c3]; omega), by omega⟩
    ·exact ⟨0, (T : Int) - nn + w - 1, by omega, rfl, fun ⟨u, hu, _⟩ => by omega, by simp [g1, g2, g3, g7, g9, g11, g12, g13, g14, g15, g70, g71, g72]⟩
   ·have hjl : j = l.length := by omega
    rw [hjl, List.take_length] at hzs
    have hxh := (hx4.sub hs)
    have hAh := hA.sub (((s1.trans s2).trans s24).trans hs)
    have hIh := hI2.sub (s24.trans hs)
    have hjh : joined ⟨h, h0.length⟩ ⟨h, h.length⟩ = ⟨h, h0.length⟩ := joined_mk _ _
    have t56 := saneW_ hW (h0 := h)
    simp [g1, g2, g3, g7, g9, g11, g12, g13, g14, g15, g70, g71, g72, hjl]
    refine DW_loop (fun kk fr st => ∃ (i : Nat), i + kk = T ∧ st = ⟨h, h0.length⟩ ∧ get fr 1 = .int .i64 k ∧ get fr 2 = .slice va A.length vc ∧ get fr 3 = .pointer (some ⟨h0.length, 0, none⟩) ∧ get fr 7 = .int .i64 mm ∧ get fr 9 = .slice la l.length lc ∧ get fr 15 = .slice (some ⟨S, 0, none⟩) T T ∧ get fr 125 = .slice (some ⟨S, 0, none⟩) T T ∧ get fr 126 = .int .i64 T ∧ get fr 127 = .int .i64 i) ?_ (k := T) ?_
    ·clear g1 g2 g3 g7 g9 g11 g12 g13 g14 g15 g70 g71 g72
     rintro kk fr st ⟨i, hik, rfl, g1, g2, g3, g7, g9, g15, g125, g126, g127⟩
     by_cases hi : i < T
     ·have hi' : (i : Int) < T := by omega
      have hwi : IntKind.i64.wrap ((i : Int) + 1) = (i : Int) + 1 := by rw [w64_id] <;> omega
      have hzc : (intsC zs)[i]? = some (.int .i64 (nth zs i)) := intsC_get (by omega)
      have hzi := hzs i hi
      obtain ⟨q1, q2⟩ := lon_sums hG hOc hPl k i
      rw [← hl, ← hcf, ← hzi] at q1 q2
      have hzb := sgL_le cf i l
      rw [← hzi] at hzb
      by_cases he : (i : Int) = k
      ·have hz0 := q1 he
       rw [hz0] at hzc
       rw [← he] at g1
       simp [g1, g2, g3, g7, g9, g15, g125, g126, g127, hi, hi', rd_def, ↓hSb, hzc, hz0, hwi, bit]
       exact ⟨kk - 1, by omega, i + 1, by omega, he, by omega⟩
      ·have hz2 := q2 he
       have hlk := linking_ hE (c := c) (L := L) hxh hS k i
       rw [← hGe, ← hz2] at hlk
       simp only [dV] at hlk
       have hw2 : IntKind.i64.wrap (2 * nth zs i) = 2 * nth zs i := by rw [w64_id] <;> omega
       simp [g1, g2, g3, g7, g9, g15, g125, g126, g127, hi, hi', he, rd_def, ↓hSb, hzc, hw2, ↓bh, rdN_def, DC_of hlk, hjh, hwi, bit]
       exact ⟨kk - 1, by omega, i + 1, by omega, by omega⟩
     ·have hiT : i = T := by omega
      have hck := checkW_ hE (c := c) (L := L) hxh hAh hrows
      obtain ⟨ck, hckv⟩ : ∃ ck, ck = (if kindD n x s L ≠ 0 then kindD n x s L else checkD (dgOf n x s L) A) := ⟨_, rfl⟩
      rw [← hckv] at hck
      simp only [dV] at hck
      by_cases hc0 : ck = 0
      ·by_cases hA0 : A.length = 0
       ·have hA0' : (A.length : Int) = 0 := by omega
        rw [hA0] at hck
        simp [g1, g2, g3, g7, g9, g15, g125, g126, g127, hiT, ↓bh, rdN_def, DC_of hck, hjh, hc0, hA0, hA0', DC_of t56, endK_ret, back, hsc]
       ·have hA0' : ¬ (A.length : Int) = 0 := by omega
        have hA1 : 0 < A.length := by omega
        rw [if_neg (by simp [hk0]), ← hGe, hc0] at hckv
        unfold checkD at hckv
        have hfacts : (A.length : Int) = arC G + G.L ∧ PermsA A ∧ HomA G A := by
         by_cases f1 : (A.length : Int) = arC G + G.L
         ·rw [if_pos f1] at hckv
          by_cases f2 : PermsA A
          ·rw [if_pos f2] at hckv
           by_cases f3 : HomA G A
           ·exact ⟨f1, f2, f3⟩
           ·rw [if_neg f3] at hckv; exact absurd hckv (by decide)
          ·rw [if_neg f2] at hckv; exact absurd hckv (by decide)
         ·rw [if_neg f1] at hckv; exact absurd hckv (by decide)
        obtain ⟨f1, f2, f3⟩ := hfacts
        obtain ⟨N, hN⟩ : ∃ N, N = (nthR A 0).length := ⟨_, rfl⟩
        have hperm : ∀ q, q < A.length → PermL N (nthR A q) := fun q hq => by
         have := (f2 q hq).2.1
         rwa [(f2 q hq).1, ← hN] at this
        have hN200 : N ≤ 200 := by have := (f2 0 hA1).2.2.2; omega
        have hgA : arC G ≤ A.length := by omega
        have hws : ∀ c, c < G.n → wordS N A (relOf G c) = Gp.e := fun c hc => (triv_S hperm (rel_mem hG hc hgA)).1 (by have := f3 c hc; rwa [← hN] at this)
        have hcomm := lon_comm hG hws k
        rw [← hmm1, ← hl] at hcomm
        obtain rfl := ha hA1
        obtain ⟨z1, z2⟩ := hvr 0 hA1
        have z1h := Ai.Sub.rdO (((s1.trans s2).trans s24).trans hs) z1
        obtain ⟨wa0, wb0, wo0, wc0, hz0, _, _⟩ := z2.at
        rw [← hN] at hz0
        rw [Nat.add_zero, hz0] at z1h
        have hlm : ∀ y ∈ l, y ≠ 0 ∧ y.natAbs ≤ A.length := fun y hy => by
         obtain ⟨a1, h1, h2⟩ := hlarc y hy
         have h3 := arN_lt (G := G) h1
         have h4 : gen G a1 = (arN G a1 : Int) + 1 := rfl
         omega
        have hmm2 : ∀ y ∈ [mm], y ≠ 0 ∧ y.natAbs ≤ A.length := fun y hy => by
         simp at hy
         omega
        have hlet : LetOk A.length l := fun j hj => by have := hlm _ (nth_mem hj); omega
        have hletm : LetOk A.length [mm] := fun j hj => by
         have := hmm2 (nth [mm] j) (nth_mem hj)
         omega
        simp [g1, g2, g3, g7, g9, g15, g125, g126, g127, hiT, ↓bh, rdN_def, DC_of hck, hjh, hc0, hA0, hA0', hA1, rd_def, z1h]
        refine DW_loop (fun kk fr st => ∃ (i : Nat) (h' : List O), i + kk = N ∧ st = ⟨h', h0.length⟩ ∧ Sub h h' ∧ get fr 2 = .slice (some ⟨vb, vo, none⟩) A.length vc ∧ get fr 7 = .int .i64 mm ∧ get fr 9 = .slice la l.length lc ∧ get fr 171 = .int .i64 N ∧ get fr 172 = .int .i64 i) ?_ (k := N) ?_
        ·clear g1 g2 g3 g7 g9 g15 g125 g126 g127
         rintro kk fr st ⟨i, h', hik, rfl, hs', g2, g7, g9, g171, g172⟩
         by_cases hi : i < N
         ·have hwi : IntKind.i64.wrap ((i : Int) + 1) = (i : Int) + 1 := by rw [w64_id] <;> omega
          obtain ⟨k1, hk1e⟩ : ∃ H, H = h' ++ [O.cells [.int .i64 mm] 3 (some 0)] := ⟨_, rfl⟩
          obtain ⟨k2, hk2e⟩ : ∃ H, H = k1 ++ [O.cells [.int .i64 mm] 3 (some 0)] := ⟨_, rfl⟩
          have u1 : Sub h' k1 := by rw [hk1e]; exact (Sub.refl _).app _
          have u2 : Sub k1 k2 := by rw [hk2e]; exact (Sub.refl _).app _
          have lk1 : h0.length ≤ k1.length := by have := (s24.trans (hs.trans (hs'.trans u1))).len; omega
          have lk2 : h0.length ≤ k2.length := by have := u2.len; omega
          have I1 : ∀ H b, H[b]? = some (O.cells [.int .i64 mm] 3 (some 0)) → Ints H (.slice (some ⟨b, 0, none⟩) 1 1) [mm] := fun H b hb => ⟨_, b, 0, 1, rfl, fun _ => rfl, fun q hq => by
           have : q = 0 := by simpa using hq
           subst this
           rw [rd_def, hb]; rfl, fun q => by
           by_cases hq : q < 1
           ·have : q = 0 := by omega
            subst this
            simp [nth]; constructor <;> omega
           ·rw [nth_ge (by simp; omega)]; decide, by simp⟩
          have M1 := I1 k1 h'.length (by rw [hk1e, app_at0]; rfl)
          have M2 := I1 k2 k1.length (by rw [hk2e, app_at0]; rfl)
          have A1 := hAh.sub (hs'.trans u1)
          have A2 := hAh.sub ((hs'.trans u1).trans u2)
          have L1 := hIh.sub (hs'.trans u1)
          have L2 := hIh.sub ((hs'.trans u1).trans u2)
          have fm := (wordS_fix N A [mm]).lt hi
          have fl := (wordS_fix N A l).lt hi
          have c1 := actR_ hE A1 M1 hperm hletm (by omega) hi
          rw [actW_S hperm hmm2 hi] at c1
          have c2 := actR_ hE A1 L1 hperm hlet (by omega) fm
          rw [actW_S hperm hlm fm] at c2
          have c3 := actR_ hE A2 L2 hperm hlet (by omega) hi
          rw [actW_S hperm hlm hi] at c3
          have c4 := actR_ hE A2 M2 hperm hletm (by omega) fl
          rw [actW_S hperm hmm2 fl] at c4
          have heq : (wordS N A l).f ((wordS N A [mm]).f i) = (wordS N A [mm]).f ((wordS N A l).f i) := by
           rw [← Sy.mul_f, ← Sy.mul_f, hcomm]
          rw [← heq] at c4
          have j1 : joined ⟨k1, h0.length⟩ ⟨k1, k1.length⟩ = ⟨k1, h0.length⟩ := joined_mk _ _
          have j2 : joined ⟨k2, h0.length⟩ ⟨k2, k2.length⟩ = ⟨k2, h0.length⟩ := joined_mk _ _
          simp [g2, g7, g9, g171, g172, hi, ↓← hk1e, ↓← hk2e, DC_of c1, DC_of c2, DC_of c3, DC_of c4, j1, j2, hwi]
          exact ⟨kk - 1, by omega, i + 1, by omega, (hs'.trans u1).trans u2, by omega⟩
         ·have hiN : i = N := by omega
          have t56' := saneW_ hW (h0 := h')
          have jh' : joined ⟨h', h0.length⟩ ⟨h', h'.length⟩ = ⟨h', h0.length⟩ := joined_mk _ _
          simp [g2, g7, g9, g171, g172, hiN, DC_of t56', jh', endK_ret, back, hsc]
        ·exact ⟨0, h, by omega, rfl, Sub.refl _, by simp [g2, g7, g9]⟩
      ·simp [g1, g2, g3, g7, g9, g15, g125, g126, g127, hiT, ↓bh, rdN_def, DC_of hck, hjh, hc0, DC_of t56, endK_ret, back, hsc]
    ·exact ⟨0, by omega, rfl, by simp [g1, g2, g3, g7, g9, g15]⟩
  ·exact ⟨0, h5, List.replicate T 0, by omega, rfl, s5, hS5, by simp, fun i hi => by simp [nth, hi, sgL], by simp [hMn]⟩
 ·simp [joined_fl, hf2, hz, DC_of r56, hj2, endK_ret, back, hsc]
end Go.Proofs.Ytjlkndkedknocaa
