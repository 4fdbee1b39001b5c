/- Texts that were built one by one: Od26, On2, Od27, Od28, Od29. -/
import Derived.Test.YtjlkndkedknocaaMh
import Derived.Test.YtjlkndkedknocaaMg
namespace Go.Proofs.Ytjlkndkedknocaa
open Go Go.Ai
set_option linter.unusedSimpArgs false
set_option linter.unusedVariables false
attribute [local instance] Classical.propDecidable
theorem ask_pos {n : Nat} {x : Nat → Nat → Int} {s : Nat → Int} {L : Int} (h : askD n x s L = 0) : Snd n x s L ∧ 0 < n ∧ n ≤ 200 := by
  obtain ⟨h1, h2⟩ := ask_zero h
  have h3 := (kind_zero h1).1
  have h4 : n ≠ 0 := h2.1
  exact ⟨h3, by omega, h3.size⟩
variable {E : Env} (hE : OE E)
include hE
/-- A builder, and the gluing that it builds. -/
theorem built_ {h0 : List O} {a : Option Addr} {n c : Nat} {x : Nat → Nat → Int} {s : Nat → Int} {L : Int} (hx : CrossP h0 a n x s) (hk : askD n x s L = 0) :
    DC E 85 [dV a n c L] ⟨h0, h0.length⟩ fun o st' => ∃ p, o = .ret (.pointer (some ⟨p, 0, none⟩)) ∧ h0.length ≤ st'.fl ∧ Sub h0 st'.h ∧ DC E 86 [.pointer (some ⟨p, 0, none⟩)] ⟨st'.h, st'.h.length⟩ fun o2 st2 =>
      ∃ fb, o2 = .ret (.agg #[.slice (some ⟨fb, 0, none⟩) (4 * n) (4 * n)]) ∧ h0.length ≤ fb ∧ h0.length ≤ st2.fl ∧ Sub h0 st2.h ∧ ∃ cs', AtB st2.h fb (.cells cs' 100 (some 20)) ∧ FacesC cs' (4 * n) (outF (dgOf n x s L)) := by
  obtain ⟨hS, hn, hsz⟩ := ask_pos hk
  refine (builderOf_ hE hn hsz).imp ?_
  rintro o ⟨h1, f1⟩ ⟨p, fb, mb, rfl, hf, hs, l1, l2, l3, hB⟩
  refine ⟨p, rfl, hf, hs, ?_⟩
  refine (build_ hE hx hS hn hs l2 hB).imp ?_
  rintro o ⟨h2, f2⟩ ⟨rfl, j1, j2, j3, cs', j4, j5⟩
  refine ⟨fb, rfl, l2, Nat.le_trans l2 j1, fun b o hb => ?_, cs', j4, j5⟩
  exact j3 _ _ (hs _ _ hb) (by have := (List.getElem?_eq_some_iff.1 hb).1; omega)
theorem Outside_ {h0 : List O} {a : Option Addr} {n c : Nat} {x : Nat → Nat → Int} {s : Nat → Int} {L : Int} (hx : CrossP h0 a n x s) :
    DC E 18 [dV a n c L] ⟨h0, h0.length⟩ fun o st' =>
      (askD n x s L ≠ 0 ∧ o = .ret (.tuple #[.agg #[.slice none 0 0], .int .i64 (askD n x s L)]) ∧ st' = ⟨h0, h0.length⟩) ∨
      (askD n x s L = 0 ∧ ∃ fb, o = .ret (.tuple #[.agg #[.slice (some ⟨fb, 0, none⟩) (4 * n) (4 * n)], .int .i64 0]) ∧ h0.length ≤ fb ∧ h0.length ≤ st'.fl ∧ Sub h0 st'.h ∧ ∃ cs', AtB st'.h fb (.cells cs' 100 (some 20)) ∧ FacesC cs' (4 * n) (outF (dgOf n x s L))) := by
  refine hE.fnC (body := rb18) rfl ?_
  unfold rb18
  obtain ⟨hB, hhB⟩ : ∃ H, H = h0 ++ [O.cells [.slice a n c, .int .i64 L] 24 (some 0), O.cells [.slice none 0 0] 29 (some 0)] := ⟨_, rfl⟩
  have hBs : Sub h0 hB := by rw [hhB]; exact (Sub.refl _).app _
  have lB : hB.length = h0.length + 2 := by rw [hhB]; simp
  have hB0 : hB[h0.length]? = some (O.cells [.slice a n c, .int .i64 L] 24 (some 0)) := by rw [hhB, app_at0]; rfl
  have hB1 : hB[h0.length + 1]? = some (O.cells [.slice none 0 0] 29 (some 0)) := by rw [hhB, app_at]; rfl
  have hask := asked_ hE (c := c) (L := L) (hx.sub hBs)
  simp [dV, List.append_assoc, ← hhB, rdN_def, hB0]
  simp only [dV] at hask
  by_cases hk : askD n x s L = 0
  · have hbt := built_ hE (c := c) (hx.sub hBs) hk
    rw [hk] at hask
    simp only [dV] at hbt
    simp [DC_of hask, joined_fl, rdN_def, hB0]
    refine hbt.imp ?_
    rintro o ⟨h1, f1⟩ ⟨p, rfl, hf, hs, hbd⟩
    simp only at hf hs hbd
    simp [joined_fl, hf, Nat.le_trans (by omega : h0.length ≤ hB.length) hf]
    refine hbd.imp ?_
    rintro o ⟨h2, f2⟩ ⟨fb, rfl, l1, l2, hs2, cs', hat, hFC⟩
    simp only at l2 hs2 hat
    have hB12 := hs2 _ _ hB1
    have hl2 := hs2.len
    have hjo : joined ⟨h1, h0.length⟩ ⟨h2, f2⟩ = ⟨h2, h0.length⟩ := by
      simp only [joined]
      split
      · congr 1; omega
      · rfl
    have hmin : min h0.length (h0.length + 1) = h0.length := by omega
    have hself : ∀ o, (h2.set (h0.length + 1) o)[h0.length + 1]? = some o := fun o => set_self hB12
    simp [hjo, wrN_def, hB12, hmin, rdN_def, hself]
    unfold pairQ back
    rw [if_neg (by simp [Out.scalar, scalar, flat1, flat])]
    refine .inr ⟨hk, fb, rfl, by omega, Nat.le_refl _, (hBs.trans hs2).set (by omega) _, cs', set_ne hat (by omega), hFC⟩
  · simp [DC_of hask, joined_fl, hk, wrN_def, hB1]
    have hmin : min h0.length (h0.length + 1) = h0.length := by omega
    have hself : ∀ o, (hB.set (h0.length + 1) o)[h0.length + 1]? = some o := fun o => set_self hB1
    simp [rdN_def, hself, hmin, back_scalar, Out.scalar, scalar, flat1, flat, hk]
theorem Arc_ {h0 : List O} {a : Option Addr} {n c : Nat} {x : Nat → Nat → Int} {s : Nat → Int} {L : Int} (hx : CrossP h0 a n x s) {arc : Int} :
    DC E 26 [dV a n c L, .int .i64 arc] ⟨h0, h0.length⟩ fun o st' =>
      (askD n x s L ≠ 0 ∧ o = .ret (.tuple #[.slice none 0 0, .int .i64 (askD n x s L)]) ∧ st' = ⟨h0, h0.length⟩) ∨
      (askD n x s L = 0 ∧ ¬ (0 ≤ arc ∧ arc < 2 * n) ∧ o = .ret (.tuple #[.slice none 0 0, .int .i64 1]) ∧ st' = ⟨h0, h0.length⟩) ∨
      (askD n x s L = 0 ∧ (0 ≤ arc ∧ arc < 2 * n) ∧ ∃ b, o = .ret (.tuple #[.slice (some ⟨b, 0, none⟩) 4 4, .int .i64 0]) ∧ h0.length ≤ b ∧ h0.length ≤ st'.fl ∧ Sub h0 st'.h ∧ AtB st'.h b (.cells (alongC (dgOf n x s L) arc.toNat) 112 (some 0))) := by
  refine hE.fnC (body := rb26) rfl ?_
  unfold rb26
  obtain ⟨hB, hhB⟩ : ∃ H, H = h0 ++ [O.cells [.slice a n c, .int .i64 L] 24 (some 0)] := ⟨_, rfl⟩
  have hBs : Sub h0 hB := by rw [hhB]; exact (Sub.refl _).app _
  have lB : hB.length = h0.length + 1 := by rw [hhB]; simp
  have hB0 : hB[h0.length]? = some (O.cells [.slice a n c, .int .i64 L] 24 (some 0)) := by rw [hhB, app_at0]; rfl
  have hask := asked_ hE (c := c) (L := L) (hx.sub hBs)
  simp [dV, List.append_assoc, ← hhB, rdN_def, hB0]
  simp only [dV] at hask
  by_cases hk : askD n x s L = 0
  · obtain ⟨hS, hn, hsz⟩ := ask_pos hk
    have hw2n : IntKind.i64.wrap (2 * (n : Int)) = 2 * n := by rw [w64_id] <;> omega
    rw [hk] at hask
    by_cases ha : 0 ≤ arc ∧ arc < 2 * n
    · have d1 : ¬ arc < 0 := by omega
      have d2 : ¬ 2 * (n : Int) ≤ arc := by omega
      have hbt := builderOf_ hE (h0 := hB) (a := a) (c := c) (L := L) hn hsz
      simp only [dV] at hbt
      simp [DC_of hask, joined_fl, rdN_def, rd_def, hB0, d1, d2, hw2n]
      refine hbt.imp ?_
      rintro o ⟨h1, f1⟩ ⟨p, fb, mb, rfl, hf, hs, l1, l2, l3, hBd⟩
      simp only at hf hs hBd
      obtain ⟨ar, har⟩ : ∃ ar : Nat, arc = ar := ⟨arc.toNat, by omega⟩
      subst har
      have hal := along_ hE hBd (hx.sub (hBs.trans hs)) hS (arc := ar) (by omega)
      have hac : alongC (dgOf n x s L) ar = [Value.int .i64 (alT (dgOf n x s L) ar 0), .int .i64 (alF (dgOf n x s L) ar 0), .int .i64 (alT (dgOf n x s L) ar 1), .int .i64 (alF (dgOf n x s L) ar 1), .int .i64 (alT (dgOf n x s L) ar 2), .int .i64 (alF (dgOf n x s L) ar 2), .int .i64 (alT (dgOf n x s L) ar 3), .int .i64 (alF (dgOf n x s L) ar 3)] := rfl
      simp only [Int.toNat_natCast]
      rw [hac] at hal ⊢
      have hsl : ∀ c, sliceV (h1 ++ [O.cells c 112 (some 0)]) 2 (.slice (some ⟨h1.length, 0, none⟩) 4 4) none none none = some (.slice (some ⟨h1.length, 0, none⟩) 4 4) := fun c => sliceV_full (app_at0 _ _)
      simp [joined_fl, hf, DC_of hal, wrN_at0, set_at0, hsl]
      unfold pairQ back
      rw [if_neg (by simp [Out.scalar, scalar, flat1, flat])]
      have hl1 := (hBs.trans hs).len
      refine .inr ⟨hk, by omega, h1.length, rfl, hl1, by simp; omega, (hBs.trans hs).app _, app_at0 _ _⟩
    · by_cases d1 : arc < 0
      · simp [DC_of hask, joined_fl, rdN_def, rd_def, hB0, d1, back_scalar, Out.scalar, scalar, flat1, flat]
        exact .inr ⟨hk, by omega⟩
      · have d2 : 2 * (n : Int) ≤ arc := by omega
        simp [DC_of hask, joined_fl, rdN_def, rd_def, hB0, d1, d2, hw2n, back_scalar, Out.scalar, scalar, flat1, flat]
        exact .inr hk
  · simp [DC_of hask, joined_fl, hk, back_scalar, Out.scalar, scalar, flat1, flat]
end Go.Proofs.Ytjlkndkedknocaa
namespace Go.Ai
set_option linter.unusedSimpArgs false
set_option linter.unusedVariables false
attribute [local instance] Classical.propDecidable
inductive VC (nb : Nat → Nat → Option Nat) : Nat → Nat → Prop
  | refl (a : Nat) : VC nb a a
  | step {a b w : Nat} (f : Nat) : VC nb a b → f < 4 → nb b f = some w → VC nb a w
theorem VC.trans {nb : Nat → Nat → Option Nat} {a b c : Nat} (h : VC nb a b) (k : VC nb b c) : VC nb a c := by
  induction k with
  | refl => exact h
  | step f _ hf hw ih => exact ih.step f hf hw
def qn (qs : List Nat) (t : Nat) : Nat := qs.getD t 0
theorem qn_mem {qs : List Nat} {t : Nat} (h : t < qs.length) : qn qs t ∈ qs := by
  unfold qn
  rw [List.getD_eq_getElem?_getD, List.getElem?_eq_getElem h]
  exact List.getElem_mem h
theorem qn_snoc {qs : List Nat} {x t : Nat} (h : t < qs.length + 1) : qn (qs ++ [x]) t = if t < qs.length then qn qs t else x := by
  unfold qn
  by_cases h1 : t < qs.length
  · rw [if_pos h1]; simp [List.getD_eq_getElem?_getD, List.getElem?_append_left h1]
  · rw [if_neg h1, List.getD_eq_getElem?_getD, List.getElem?_append_right (by omega), show t - qs.length = 0 by omega]; rfl
/-- How many are false. -/
def unm (bs : List Bool) : Nat := bs.countP fun b => !b
theorem unm_set {bs : List Bool} {i : Nat} (hi : i < bs.length) (h : bnth bs i = false) : unm (bs.set i true) + 1 = unm bs := by
  have hx : bs[i] = false := by simpa [bnth, hi] using h
  have hpos : 0 < List.countP (fun b => !b) bs := List.countP_pos_iff.2 ⟨bs[i], List.getElem_mem hi, by simp [hx]⟩
  unfold unm
  rw [List.countP_set hi, if_pos (by simp [hx]), if_neg (by simp)]
  omega
theorem unm_le (bs : List Bool) : unm bs ≤ bs.length := List.countP_le_length
/-- All nodes that come first are through. -/
structure CB (N : Nat) (nb : Nat → Nat → Option Nat) (v : Nat) (bs : List Bool) : Prop where
  len : bs.length = N
  closed : ∀ u f w, u < N → bnth bs u = true → f < 4 → nb u f = some w → bnth bs w = true
  done : ∀ u, u < v → bnth bs u = true
  src : ∀ u, u < N → bnth bs u = true → ∃ w, w < v ∧ VC nb w u
structure CQ (N : Nat) (nb : Nat → Nat → Option Nat) (r k f : Nat) (bs0 bs : List Bool) (qs : List Nat) : Prop where
  len : bs.length = N
  old : ∀ u, bnth bs0 u = true → bnth bs u = true
  new : ∀ u, bnth bs u = true → bnth bs0 u = true ∨ u ∈ qs
  inq : ∀ u, u ∈ qs → u < N ∧ bnth bs u = true ∧ VC nb r u
  procd : ∀ t, t < k → ∀ f' w, f' < 4 → nb (qn qs t) f' = some w → bnth bs w = true
  cur : ∀ f' w, f' < f → nb (qn qs k) f' = some w → bnth bs w = true
variable {N : Nat} {nb : Nat → Nat → Option Nat}
theorem CB.reach {v : Nat} {bs : List Bool} (h : CB N nb v bs) (hN : ∀ u f w, u < N → f < 4 → nb u f = some w → w < N) {a b : Nat} (ha : a < N) (hm : bnth bs a = true) (hc : VC nb a b) : b < N ∧ bnth bs b = true := by
  induction hc with
  | refl => exact ⟨ha, hm⟩
  | step f _ hf hw ih => exact ⟨hN _ f _ ih.1 hf hw, h.closed _ f _ ih.1 ih.2 hf hw⟩
/-- A node has been met exactly if it is not the first one of those from which it is reached. -/
theorem CB.met {v : Nat} {bs : List Bool} (h : CB N nb v bs) (hN : ∀ u f w, u < N → f < 4 → nb u f = some w → w < N) (hv : v < N) : bnth bs v = true ↔ ∃ w, w < v ∧ VC nb w v :=
  ⟨h.src v hv, fun ⟨w, h1, h2⟩ => (h.reach hN (by omega) (h.done w h1) h2).2⟩
theorem CB.start : CB N nb 0 (List.replicate N false) :=
  ⟨by simp, fun u f w hu hm => (by rw [bnth_rep hu] at hm; cases hm), fun u hu => by omega, fun u hu hm => (by rw [bnth_rep hu] at hm; cases hm)⟩
theorem CB.skip {v : Nat} {bs : List Bool} (h : CB N nb v bs) (hm : bnth bs v = true) : CB N nb (v + 1) bs :=
  ⟨h.len, h.closed, fun u hu => by
    by_cases e : u = v
    · rw [e]; exact hm
    · exact h.done u (by omega), fun u hu hm' => by obtain ⟨w, h1, h2⟩ := h.src u hu hm'; exact ⟨w, by omega, h2⟩⟩
theorem CQ.start {v : Nat} {bs : List Bool} (h : CB N nb v bs) (hv : v < N) : CQ N nb v 0 0 bs (bs.set v true) [v] :=
  ⟨by simp [h.len], fun u hu => by
    rw [bnth_set (by rw [h.len]; exact hv)]
    split
    · rfl
    · exact hu, fun u hu => by
    rw [bnth_set (by rw [h.len]; exact hv)] at hu
    split at hu
    · rename_i e; right; simp [e]
    · exact .inl hu, fun u hu => by
    simp at hu
    subst hu
    exact ⟨hv, by rw [bnth_set (by rw [h.len]; exact hv), if_pos rfl], .refl _⟩, fun t ht => by omega, fun f' w hf => by omega⟩
theorem CQ.pass {r k f : Nat} {bs0 bs : List Bool} {qs : List Nat} (h : CQ N nb r k f bs0 bs qs) (hp : ∀ w, nb (qn qs k) f = some w → bnth bs w = true) : CQ N nb r k (f + 1) bs0 bs qs :=
  ⟨h.len, h.old, h.new, h.inq, h.procd, fun f' w hf hw => by
    by_cases e : f' = f
    · subst e; exact hp w hw
    · exact h.cur f' w (by omega) hw⟩
theorem CQ.add {r k f w : Nat} {bs0 bs : List Bool} {qs : List Nat} (h : CQ N nb r k f bs0 bs qs) (hk : k < qs.length) (hf : f < 4) (hw : nb (qn qs k) f = some w) (hwN : w < N) : CQ N nb r k (f + 1) bs0 (bs.set w true) (qs ++ [w]) := by
  have hs : ∀ u, bnth (bs.set w true) u = if u = w then true else bnth bs u := fun u => bnth_set (by rw [h.len]; exact hwN)
  have hold : ∀ u, bnth bs u = true → bnth (bs.set w true) u = true := fun u hu => by
    rw [hs]; split
    · rfl
    · exact hu
  have hq : ∀ t, t < qs.length → qn (qs ++ [w]) t = qn qs t := fun t ht => by rw [qn_snoc (by omega), if_pos ht]
  refine ⟨by simp [h.len], fun u hu => hold u (h.old u hu), fun u hu => ?_, fun u hu => ?_, fun t ht f' w' hf' hw' => ?_, fun f' w' hf' hw' => ?_⟩
  · rw [hs] at hu
    by_cases e : u = w
    · right; simp [e]
    · rw [if_neg e] at hu
      rcases h.new u hu with h1 | h1
      · exact .inl h1
      · right; simp [h1]
  · simp only [List.mem_append, List.mem_singleton] at hu
    rcases hu with hu | rfl
    · obtain ⟨a, b, c⟩ := h.inq u hu
      exact ⟨a, hold u b, c⟩
    · exact ⟨hwN, by rw [hs, if_pos rfl], (h.inq _ (qn_mem hk)).2.2.step f hf hw⟩
  · rw [hq t (by omega)] at hw'
    exact hold _ (h.procd t ht f' w' hf' hw')
  · rw [hq k hk] at hw'
    by_cases e : f' = f
    · subst e
      rw [hw] at hw'
      obtain rfl := Option.some.inj hw'
      rw [hs, if_pos rfl]
    · exact hold _ (h.cur f' w' (by omega) hw')
theorem CQ.next {r k : Nat} {bs0 bs : List Bool} {qs : List Nat} (h : CQ N nb r k 4 bs0 bs qs) : CQ N nb r (k + 1) 0 bs0 bs qs :=
  ⟨h.len, h.old, h.new, h.inq, fun t ht f' w hf hw => by
    by_cases e : t = k
    · subst e; exact h.cur f' w hf hw
    · exact h.procd t (by omega) f' w hf hw, fun f' w hf => by omega⟩
theorem CQ.finish {v k : Nat} {bs0 bs : List Bool} {qs : List Nat} (h : CQ N nb v k 0 bs0 bs qs) (h0 : CB N nb v bs0) (hk : k = qs.length) (hv : bnth bs v = true) : CB N nb (v + 1) bs := by
  subst hk
  refine ⟨h.len, fun u f w hu hm hf hw => ?_, fun u hu => ?_, fun u hu hm => ?_⟩
  · rcases h.new u hm with h1 | h1
    · exact h.old _ (h0.closed u f w hu h1 hf hw)
    · obtain ⟨t, ht, rfl⟩ := List.getElem_of_mem h1
      refine h.procd t ht f w hf ?_
      rw [show qn qs t = qs[t] by simp [qn, ht]]
      exact hw
  · by_cases e : u = v
    · rw [e]; exact hv
    · exact h.old u (h0.done u (by omega))
  · rcases h.new u hm with h1 | h1
    · obtain ⟨w, a, b⟩ := h0.src u hu h1
      exact ⟨w, by omega, b⟩
    · exact ⟨v, by omega, (h.inq u h1).2.2⟩
/-- The nodes that come first among those from which they are reached. -/
noncomputable def firstsV (nb : Nat → Nat → Option Nat) : Nat → List Nat
  | 0 => []
  | v + 1 => if ∃ w, w < v ∧ VC nb w v then firstsV nb v else firstsV nb v ++ [v]
theorem firstsV_old {nb : Nat → Nat → Option Nat} {v : Nat} (h : ∃ w, w < v ∧ VC nb w v) : firstsV nb (v + 1) = firstsV nb v := by rw [firstsV, if_pos h]
theorem firstsV_new {nb : Nat → Nat → Option Nat} {v : Nat} (h : ¬ ∃ w, w < v ∧ VC nb w v) : firstsV nb (v + 1) = firstsV nb v ++ [v] := by rw [firstsV, if_neg h]
theorem firstsV_len (nb : Nat → Nat → Option Nat) : ∀ v, (firstsV nb v).length ≤ v := by
  intro v
  induction v with
  | zero => simp [firstsV]
  | succ v ih =>
    simp only [firstsV]
    split
    · omega
    · simp; omega
end Go.Ai
namespace Go.Proofs.Ytjlkndkedknocaa
open Go Go.Ai
set_option linter.unusedSimpArgs false
set_option linter.unusedVariables false
attribute [local instance] Classical.propDecidable
def pm (sw : Bool) (i : Nat) : Nat := if sw then (if i = 0 then 1 else if i = 1 then 0 else i) else i
def fcT : Option (Nat × Bool) → Nat
  | none => 0
  | some (t, _) => t
def fcP : Option (Nat × Bool) → Nat → Nat
  | none, _ => 0
  | some (_, sw), i => pm sw i
theorem fcC_eq (x : Option (Nat × Bool)) : fcC x = [.int .i64 (fcT x), .int .i64 (fcP x 0), .int .i64 (fcP x 1), .int .i64 (fcP x 2), .int .i64 (fcP x 3)] := by
  rcases x with _ | ⟨t, sw⟩
  · rfl
  · cases sw <;> rfl
theorem fcP_lt (x : Option (Nat × Bool)) {i : Nat} (hi : i < 4) : fcP x i < 4 := by
  rcases x with _ | ⟨t, sw⟩
  · simp [fcP]
  · cases sw <;> simp only [fcP, pm] <;> (repeat' split) <;> omega
/-- The neighbour of a vertex through a face. -/
def nbF (F : Nat → Nat → Option (Nat × Bool)) (u f : Nat) : Option Nat := if f = u % 4 then none else some (fcT (F (u / 4) f) * 4 + fcP (F (u / 4) f) (u % 4))
theorem joinF_lt {M : Nat} {F : Nat → Nat → Option (Nat × Bool)} (h : 0 < M) (hF : ∀ t f, fcT (F t f) < M) {ta fa tb fb : Nat} {sw : Bool} (h1 : ta < M) (h2 : tb < M) : ∀ t f, fcT (joinF F ta fa tb fb sw t f) < M := by
  intro t f
  unfold joinF updF
  split
  · exact h1
  · split
    · exact h2
    · exact hF t f
theorem glC_lt {M : Nat} : ∀ j, 0 < M → (∀ i, i < j → i < M ∧ 4 * (i / 4) + 3 < M) → ∀ t f, fcT (glC j t f) < M := by
  intro j
  induction j with
  | zero => intro hM _ t f; exact hM
  | succ j ih =>
    intro hM h
    obtain ⟨a, b⟩ := h j (by omega)
    exact joinF_lt hM (ih hM fun i hi => h i (by omega)) a (by omega)
theorem outF_lt {G : Dg} (hG : GoodG G) (hn : 0 < G.n) (t f : Nat) : fcT (outF G t f) < 4 * G.n := by
  have : ∀ a, a ≤ 2 * G.n → ∀ t f, fcT (glA G a t f) < 4 * G.n := by
    intro a
    induction a with
    | zero => intro _; exact glC_lt _ (by omega) fun i hi => by omega
    | succ a ih =>
      intro ha
      have q := fun k => (alT_lt hG (a := a) (by omega) k).1
      exact joinF_lt (by omega) (joinF_lt (by omega) (ih (by omega)) (q 0) (q 1)) (q 2) (q 3)
  exact this _ (Nat.le_refl _) t f
theorem nbF_lt {G : Dg} (hG : GoodG G) (hn : 0 < G.n) {u f w : Nat} (h : nbF (outF G) u f = some w) : w < 16 * G.n := by
  unfold nbF at h
  split at h
  · cases h
  · obtain rfl := Option.some.inj h
    have h1 := outF_lt hG hn (u / 4) f
    have h2 := fcP_lt (outF G (u / 4) f) (i := u % 4) (Nat.mod_lt _ (by omega))
    omega
def nodesC (qs : List Nat) : List Value := qs.flatMap fun u => [.int .i64 ((u / 4 : Nat) : Int), .int .i64 ((u % 4 : Nat) : Int)]
theorem nodesC_app (qs : List Nat) (u : Nat) : nodesC (qs ++ [u]) = nodesC qs ++ [.int .i64 ((u / 4 : Nat) : Int), .int .i64 ((u % 4 : Nat) : Int)] := by simp [nodesC]
theorem nodesC_len (qs : List Nat) : (nodesC qs).length = qs.length * 2 := by
  induction qs with
  | nil => rfl
  | cons a l ih => rw [show nodesC (a :: l) = [.int .i64 ((a / 4 : Nat) : Int), .int .i64 ((a % 4 : Nat) : Int)] ++ nodesC l from rfl]; simp [ih]; omega
theorem nodesC_get {qs : List Nat} {t : Nat} (ht : t < qs.length) : (nodesC qs)[t * 2]? = some (.int .i64 ((qn qs t / 4 : Nat) : Int)) ∧ (nodesC qs)[t * 2 + 1]? = some (.int .i64 ((qn qs t % 4 : Nat) : Int)) := by
  induction qs generalizing t with
  | nil => simp at ht
  | cons a l ih =>
    rw [show nodesC (a :: l) = .int .i64 ((a / 4 : Nat) : Int) :: .int .i64 ((a % 4 : Nat) : Int) :: nodesC l from rfl]
    cases t with
    | zero => exact ⟨rfl, rfl⟩
    | succ t =>
      have := ih (t := t) (by simpa using ht)
      rw [show (t + 1) * 2 = t * 2 + 1 + 1 by omega, show t * 2 + 1 + 1 + 1 = (t * 2 + 1) + 1 + 1 by omega]
      simpa [qn] using this
/-- The number of a vertex class by its first vertex. -/
def cuspV (G : Dg) (xs : List Int) (v : Nat) : Int := match v % 4 with
  | 0 => nth xs (G.X (v / 16) 1)
  | 1 => nth xs (G.X (v / 16) 0)
  | i => 1 - i
noncomputable def cuspL (G : Dg) (xs : List Int) (v : Nat) : List Int := (firstsV (nbF (outF G)) v).map (cuspV G xs)
theorem cuspL_len (G : Dg) (xs : List Int) (v : Nat) : (cuspL G xs v).length ≤ v := by
  unfold cuspL
  rw [List.length_map]
  exact firstsV_len _ _
/-- The faces of a tetrahedron as they are read. -/
theorem FacesC.row {cs : List Value} {N : Nat} {F : Nat → Nat → Option (Nat × Bool)} (h : FacesC cs N F) {t : Nat} (ht : t < N) : (cs.drop (t * 20)).take 20 = fcC (F t 0) ++ fcC (F t 1) ++ fcC (F t 2) ++ fcC (F t 3) := by
  have hl : (fcC (F t 0) ++ fcC (F t 1) ++ fcC (F t 2) ++ fcC (F t 3)).length = 20 := by simp [fcC_len]
  have hL := h.1
  have main : (cs.drop (t * 20)).take (fcC (F t 0) ++ fcC (F t 1) ++ fcC (F t 2) ++ fcC (F t 3)).length = fcC (F t 0) ++ fcC (F t 1) ++ fcC (F t 2) ++ fcC (F t 3) := by
    refine take_of_get (fun j hj => ?_) (by omega)
    rw [hl] at hj
    have key : ∀ f, f < 4 → ∀ i, i < 5 → cs[t * 20 + (f * 5 + i)]? = (fcC (F t f))[i]? := fun f hf i hi => by rw [← Nat.add_assoc]; exact h.2 t f ht hf i hi
    have l0 := fcC_len (F t 0)
    have l1 := fcC_len (F t 1)
    have l2 := fcC_len (F t 2)
    have l3 := fcC_len (F t 3)
    by_cases h0 : j < 5
    · rw [List.getElem?_append_left (by simp; omega), List.getElem?_append_left (by simp; omega), List.getElem?_append_left (by omega)]
      have := key 0 (by omega) j h0
      rw [← this]; congr 1; omega
    · by_cases h1 : j < 10
      · rw [List.getElem?_append_left (by simp; omega), List.getElem?_append_left (by simp; omega), List.getElem?_append_right (by omega), l0]
        have := key 1 (by omega) (j - 5) (by omega)
        rw [← this]; congr 1; omega
      · by_cases h2 : j < 15
        · rw [List.getElem?_append_left (by simp; omega), List.getElem?_append_right (by simp; omega), List.length_append, l0, l1]
          have := key 2 (by omega) (j - 10) (by omega)
          rw [← this]; congr 1; omega
        · rw [List.getElem?_append_right (by simp; omega), List.length_append, List.length_append, l0, l1, l2]
          have := key 3 (by omega) (j - 15) (by omega)
          rw [← this]; congr 1; omega
  rw [hl] at main
  exact main
theorem row_face (F : Nat → Nat → Option (Nat × Bool)) (t f : Nat) (hf : f < 4) : partL (fcC (F t 0) ++ fcC (F t 1) ++ fcC (F t 2) ++ fcC (F t 3)) (f * 5) (some 5) = some (.agg (fcC (F t f)).toArray) := by
  simp only [fcC_eq]
  match f, hf with
  | 0, _ => rfl
  | 1, _ => rfl
  | 2, _ => rfl
  | 3, _ => rfl
end Go.Proofs.Ytjlkndkedknocaa
namespace Go.Proofs.Ytjlkndkedknocaa
open Go Go.Ai
set_option linter.unusedSimpArgs false
set_option linter.unusedVariables false
attribute [local instance] Classical.propDecidable
/-- The state of the search (kept from simp). -/
structure CInv (H h : List O) (n mb v : Nat) (G : Dg) (xs : List Int) (bs : List Bool) (vo : Value) : Prop where
  keep : ∀ (b : Nat) (o : O), H[b]? = some o → b ≠ mb → h[b]? = some o
  met : h[mb]? = some (.cells (boolsC bs) 109 (some 0))
  out : OwnS h H.length vo (cuspL G xs v).length (intsC (cuspL G xs v)) 3 1
structure CQv (H h : List O) (n r k f qb : Nat) (nb : Nat → Nat → Option Nat) (bs0 bs : List Bool) (qs : List Nat) : Prop where
  q : CQ (16 * n) nb r k f bs0 bs qs
  own : OwnS h H.length (.slice (some ⟨qb, 0, none⟩) qs.length qs.length) qs.length (nodesC qs) 110 2
  cnt : qs.length + unm bs ≤ 16 * n
  hd : bnth bs r = true
variable {E : Env} (hE : OE E)
include hE
theorem Cusps_ {h0 : List O} {a : Option Addr} {n c : Nat} {x : Nat → Nat → Int} {s : Nat → Int} {L : Int} (hx : CrossP h0 a n x s) :
    DC E 23 [dV a n c L] ⟨h0, h0.length⟩ fun o st' =>
      (askD n x s L ≠ 0 ∧ o = .ret (.tuple #[.slice none 0 0, .int .i64 (askD n x s L)]) ∧ st' = ⟨h0, h0.length⟩) ∨
      (askD n x s L = 0 ∧ ∃ (xs : List Int) (k : Nat) (v : Value), OrbI (2 * n) (nx (dgOf n x s L)) (2 * n) k xs ∧ o = .ret (.tuple #[v, .int .i64 0]) ∧ h0.length ≤ st'.fl ∧ Sub h0 st'.h ∧
        OwnS st'.h h0.length v (cuspL (dgOf n x s L) xs (16 * n)).length (intsC (cuspL (dgOf n x s L) xs (16 * n))) 3 1) := by
  refine hE.fnC (body := rb23) rfl ?_
  unfold rb23
  obtain ⟨hB, hhB⟩ : ∃ H, H = h0 ++ [O.cells [.slice a n c, .int .i64 L] 24 (some 0)] := ⟨_, rfl⟩
  have hBs : Sub h0 hB := by rw [hhB]; exact (Sub.refl _).app _
  have lB : hB.length = h0.length + 1 := by rw [hhB]; simp
  have hB0 : hB[h0.length]? = some (O.cells [.slice a n c, .int .i64 L] 24 (some 0)) := by rw [hhB, app_at0]; rfl
  have hask := asked_ hE (c := c) (L := L) (hx.sub hBs)
  simp [dV, List.append_assoc, ← hhB, rdN_def, hB0]
  simp only [dV] at hask
  by_cases hk : askD n x s L = 0
  · obtain ⟨hS, hn, hsz⟩ := ask_pos hk
    have hkd := (ask_zero hk).1
    have hbt := built_ hE (c := c) (hx.sub hBs) hk
    rw [hk] at hask
    simp only [dV] at hbt
    simp [DC_of hask, joined_fl, rdN_def, hB0, hk]
    refine hbt.imp ?_
    rintro o ⟨h1, f1⟩ ⟨p, rfl, hf, hs, hbd⟩
    simp only at hf hs hbd
    simp [joined_fl, hf]
    refine hbd.imp ?_
    rintro o ⟨h2, f2⟩ ⟨fb, rfl, l1, l2, hs2, cs', hatF, hFC⟩
    simp only at l2 hs2 hatF
    have hB2 := hs2 _ _ hB0
    have hl2 := hs2.len
    have hjo : joined ⟨h1, h0.length⟩ ⟨h2, f2⟩ = ⟨h2, h0.length⟩ := by
      simp only [joined]
      split
      · congr 1; omega
      · rfl
    obtain ⟨h3, hh3⟩ : ∃ H, H = h2 ++ [O.cells [.slice (some ⟨fb, 0, none⟩) (4 * n) (4 * n)] 29 (some 0)] := ⟨_, rfl⟩
    have hs23 : Sub h2 h3 := by rw [hh3]; exact (Sub.refl _).app _
    have hG3 : h3[h2.length]? = some (O.cells [.slice (some ⟨fb, 0, none⟩) (4 * n) (4 * n)] 29 (some 0)) := by rw [hh3, app_at0]; rfl
    have l3 : h3.length = h2.length + 1 := by rw [hh3]; simp
    have hB3 := hs23 _ _ hB2
    simp [hjo, wrN_at0, set_at0, ← hh3, rdN_def, hB3]
    have hcm := componentsP_ hE (c := c) (L := L) (hx.sub (hBs.trans (hs2.trans hs23))) hkd
    simp only [dV] at hcm
    refine hcm.imp ?_
    rintro o ⟨h4, f4⟩ ⟨cb, k, xs, rfl, hcb, hf4, hs34, hatC, hO, hk2⟩
    simp only at hf4 hs34 hatC
    have hG4 := hs34 _ _ hG3
    have lh4 := hs34.len
    have e1 : (0 : Int) ≤ 4 * n := by omega
    have e2 : 4 * (n : Int) * 4 ≤ 140737488355328 := by omega
    have e3 : 4 * (n : Int) < 4611686018427387904 := by omega
    have e4 : (4 * (n : Int)).toNat = 4 * n := by omega
    have hrep : rep (4 * n) [Value.bool false, .bool false, .bool false, .bool false] = boolsC (List.replicate (16 * n) false) := by
      show (List.replicate (4 * n) (List.replicate 4 (Value.bool false))).flatten = _
      rw [List.flatten_replicate_replicate, boolsC, List.map_replicate, show 4 * n * 4 = 16 * n by omega]
    simp [joined_fl, hf4, rd_def, hG4, e1, e2, e3, e4, hrep]
    obtain ⟨H, hhH⟩ : ∃ H, H = h4 ++ [O.cells (boolsC (List.replicate (16 * n) false)) 109 (some 0)] := ⟨_, rfl⟩
    have hs4H : Sub h4 H := by rw [hhH]; exact (Sub.refl _).app _
    have hM : H[h4.length]? = some (O.cells (boolsC (List.replicate (16 * n) false)) 109 (some 0)) := by rw [hhH, app_at0]; rfl
    have lH : H.length = h4.length + 1 := by rw [hhH]; simp
    rw [← hhH]
    have hDH := hs4H _ _ (hs34 _ _ hB3)
    have hGH := hs4H _ _ hG4
    have hFH := hs4H _ _ (hs34 _ _ (hs23 _ _ hatF))
    have hCH := hs4H _ _ hatC
    have hxH := hx.sub (hBs.trans (hs2.trans (hs23.trans (hs34.trans hs4H))))
    have hs0H : Sub h0 H := hBs.trans (hs2.trans (hs23.trans (hs34.trans hs4H)))
    obtain ⟨G, hGe⟩ : ∃ G, G = dgOf n x s L := ⟨_, rfl⟩
    have hGn : G.n = n := by rw [hGe]; rfl
    have hG : GoodG G := by rw [hGe]; exact good_of hS
    have hxe : ∀ i q, i < n → q < 4 → x i q = G.X i q := fun i q hi hq => by rw [hGe]; exact sound_x hS hi hq
    rw [← hGe] at hO hFC ⊢
    have hnb : ∀ u f w, nbF (outF G) u f = some w → w < 16 * n := fun u f w hw => by rw [← hGn]; exact nbF_lt hG (by omega) hw
    have hlt : ∀ t f, fcT (outF G t f) < 4 * n := fun t f => by rw [← hGn]; exact outF_lt hG (by omega) t f
    have nmb1 : h0.length ≠ h4.length := by omega
    have nmb2 : h2.length ≠ h4.length := by omega
    have nmb3 : fb ≠ h4.length := by have := (List.getElem?_eq_some_iff.1 (hs34 _ _ (hs23 _ _ hatF))).1; omega
    have nmb4 : cb ≠ h4.length := by have := (List.getElem?_eq_some_iff.1 hatC).1; omega
    refine DW_loop (fun kk fr st => ∃ (t : Nat) (h : List O) (bs : List Bool) (vo : Value), t + kk = 4 * n ∧ st = ⟨h, h0.length⟩ ∧ CB (16 * n) (nbF (outF G)) (t * 4) bs ∧ CInv H h n h4.length (t * 4) G xs bs vo ∧
      get fr 1 = .pointer (some ⟨h0.length, 0, none⟩) ∧ get fr 5 = .pointer (some ⟨h2.length, 0, none⟩) ∧ get fr 6 = .slice (some ⟨cb, 0, none⟩) (2 * n) (2 * n) ∧ get fr 9 = .slice (some ⟨h4.length, 0, none⟩) (4 * n) (4 * n) ∧ get fr 10 = vo ∧ get fr 38 = .int .i64 (4 * n) ∧ get fr 39 = .int .i64 t) ?_ (k := 4 * n) ?_
    · rintro kk fr st ⟨t, h, bs, vo, htk, rfl, hCB, hI, g1, g5, g6, g9, g10, g38, g39⟩
      by_cases ht : t < 4 * n
      · have ht' : (t : Int) < 4 * n := by omega
        simp [g1, g5, g6, g9, g10, g38, g39, ht']
        refine DW_loop (fun kk' fr st => ∃ (i : Nat) (h : List O) (bs : List Bool) (vo : Value), i + kk' = 4 ∧ st = ⟨h, h0.length⟩ ∧ CB (16 * n) (nbF (outF G)) (t * 4 + i) bs ∧ CInv H h n h4.length (t * 4 + i) G xs bs vo ∧
          get fr 1 = .pointer (some ⟨h0.length, 0, none⟩) ∧ get fr 5 = .pointer (some ⟨h2.length, 0, none⟩) ∧ get fr 6 = .slice (some ⟨cb, 0, none⟩) (2 * n) (2 * n) ∧ get fr 9 = .slice (some ⟨h4.length, 0, none⟩) (4 * n) (4 * n) ∧ get fr 10 = vo ∧ get fr 38 = .int .i64 (4 * n) ∧ get fr 39 = .int .i64 t ∧ get fr 11 = .int .i64 t ∧ get fr 42 = .int .i64 i) ?_ (k := 4) ?_
        · clear g1 g5 g6 g9 g10 g38 g39 hI hCB
          clear h bs vo
          rintro kk' fr st ⟨i, h, bs, vo, hik, rfl, hCB, hI, g1, g5, g6, g9, g10, g38, g39, g11, g42⟩
          by_cases hi : i < 4
          · have hi' : (i : Int) < 4 := by omega
            have hw : IntKind.i64.wrap ((i : Int) + 1) = (i : Int) + 1 := by rw [w64_id] <;> omega
            have hm := hI.met
            have lm := (List.getElem?_eq_some_iff.1 hm).1
            have hv : t * 4 + i < 16 * n := by omega
            have hvb : t * 4 + i < bs.length := by rw [hCB.len]; exact hv
            by_cases hmet : bnth bs (t * 4 + i) = true
            · simp [g1, g5, g6, g9, g10, g38, g39, g11, g42, hi', ht', rd_def, hm, boolsC_get hvb, hmet, hw]
              refine ⟨kk' - 1, by omega, i + 1, by omega, bs, hCB.skip hmet, vo, ?_, rfl, by omega⟩
              have hcl : cuspL G xs (t * 4 + i + 1) = cuspL G xs (t * 4 + i) := by
                unfold cuspL
                rw [firstsV_old ((hCB.met (fun u f w _ _ hw => hnb u f w hw) hv).1 hmet)]
              exact ⟨hI.keep, hI.met, by rw [← Nat.add_assoc, hcl]; exact hI.out⟩
            · have hmf : bnth bs (t * 4 + i) = false := by simpa using hmet
              have b1 : t * 4 + i + 1 ≤ bs.length := by omega
              have hmin : min h0.length h4.length = h0.length := by omega
              simp [g1, g5, g6, g9, g10, g38, g39, g11, g42, hi', ht', rd_def, hm, boolsC_get hvb, hmf, hw, wrN_def, b1, boolsC_set, hmin]
              have vd : (t * 4 + i) / 4 = t := by omega
              have vm : (t * 4 + i) % 4 = i := by omega
              refine DW_loop (fun kk2 fr st => ∃ (k2 : Nat) (h : List O) (bs2 : List Bool) (qs : List Nat) (qb : Nat), k2 + kk2 = 16 * n ∧ st = ⟨h, h0.length⟩ ∧ CInv H h n h4.length (t * 4 + i) G xs bs2 vo ∧ CQv H h n (t * 4 + i) k2 0 qb (nbF (outF G)) bs bs2 qs ∧ k2 ≤ qs.length ∧
                get fr 1 = .pointer (some ⟨h0.length, 0, none⟩) ∧ get fr 5 = .pointer (some ⟨h2.length, 0, none⟩) ∧ get fr 6 = .slice (some ⟨cb, 0, none⟩) (2 * n) (2 * n) ∧ get fr 9 = .slice (some ⟨h4.length, 0, none⟩) (4 * n) (4 * n) ∧ get fr 10 = vo ∧ get fr 38 = .int .i64 (4 * n) ∧ get fr 39 = .int .i64 t ∧ get fr 11 = .int .i64 t ∧ get fr 42 = .int .i64 i ∧ get fr 12 = .int .i64 i ∧
                get fr 13 = .slice (some ⟨qb, 0, none⟩) qs.length qs.length ∧ get fr 14 = .int .i64 k2) ?_ (k := 16 * n) ?_
              · clear g1 g5 g6 g9 g10 g38 g39 g11 g42 hI hm lm hmin
                clear h
                rintro kk2 fr st ⟨k2, h, bs2, qs, qb, hkk, rfl, hI, hQ, hkq, g1, g5, g6, g9, g10, g38, g39, g11, g42, g12, g13, g14⟩
                by_cases hk2 : k2 < qs.length
                · obtain ⟨n1, n2⟩ := nodesC_get hk2
                  obtain ⟨qlo, qsz, qat⟩ := hQ.own.at_
                  obtain ⟨u, hu⟩ : ∃ u, u = qn qs k2 := ⟨_, rfl⟩
                  rw [← hu] at n1 n2
                  have huN := (hQ.q.inq u (by rw [hu]; exact qn_mem hk2)).1
                  have hu4 : u / 4 < 4 * n := by omega
                  have hu4' : (((u / 4 : Nat) : Int)) < 4 * n := by omega
                  have hGh := hI.keep _ _ hGH nmb2
                  have hFh := hI.keep _ _ hFH nmb3
                  obtain ⟨row, hrd⟩ : ∃ row, row = fcC (outF G (u / 4) 0) ++ fcC (outF G (u / 4) 1) ++ fcC (outF G (u / 4) 2) ++ fcC (outF G (u / 4) 3) := ⟨_, rfl⟩
                  have hrow := hFC.row hu4
                  have hpart := fun f hf => row_face (outF G) (u / 4) f hf
                  rw [← hrd] at hrow
                  rw [← hrd] at hpart
                  have hcl := hFC.1
                  have b2 : u / 4 * 20 + 20 ≤ cs'.length := by omega
                  obtain ⟨ud, hud⟩ : ∃ ud, ud = u / 4 := ⟨_, rfl⟩
                  obtain ⟨um, hum⟩ : ∃ um, um = u % 4 := ⟨_, rfl⟩
                  have hum4 : um < 4 := by omega
                  rw [← hud] at n1 hu4 hu4' hrow b2 hpart
                  rw [← hum] at n2
                  simp [g1, g5, g6, g9, g10, g38, g39, g11, g42, g12, g13, g14, hk2, rd_def, qat, n1, n2, rdN_def, hGh, hFh, hu4', hu4, b2, hrow]
                  refine DW_loop (fun kk3 fr st => ∃ (f : Nat) (h : List O) (bs2 : List Bool) (qs : List Nat) (qb : Nat), f + kk3 = 4 ∧ st = ⟨h, h0.length⟩ ∧ CInv H h n h4.length (t * 4 + i) G xs bs2 vo ∧ CQv H h n (t * 4 + i) k2 f qb (nbF (outF G)) bs bs2 qs ∧ k2 < qs.length ∧ u = qn qs k2 ∧
                    get fr 1 = .pointer (some ⟨h0.length, 0, none⟩) ∧ get fr 5 = .pointer (some ⟨h2.length, 0, none⟩) ∧ get fr 6 = .slice (some ⟨cb, 0, none⟩) (2 * n) (2 * n) ∧ get fr 9 = .slice (some ⟨h4.length, 0, none⟩) (4 * n) (4 * n) ∧ get fr 10 = vo ∧ get fr 38 = .int .i64 (4 * n) ∧ get fr 39 = .int .i64 t ∧ get fr 11 = .int .i64 t ∧ get fr 42 = .int .i64 i ∧ get fr 12 = .int .i64 i ∧
                    get fr 13 = .slice (some ⟨qb, 0, none⟩) qs.length qs.length ∧ get fr 14 = .int .i64 k2 ∧ get fr 16 = .int .i64 um ∧ get fr 80 = .agg row.toArray ∧ get fr 81 = .int .i64 f) ?_ (k := 4) ?_
                  · clear g1 g5 g6 g9 g10 g38 g39 g11 g42 g12 g13 g14 hI hQ hu n1 n2 qat hGh hFh qlo hk2 hkq
                    clear h bs2 qs qb
                    rintro kk3 fr st ⟨f, h, bs2, qs, qb, hfk, rfl, hI, hQ, hk2, hu, g1, g5, g6, g9, g10, g38, g39, g11, g42, g12, g13, g14, g16, g80, g81⟩
                    by_cases hf : f < 4
                    · have hf' : (f : Int) < 4 := by omega
                      have hwf : IntKind.i64.wrap ((f : Int) + 1) = (f : Int) + 1 := by rw [w64_id] <;> omega
                      have hp := hpart f hf
                      obtain ⟨y, hy⟩ : ∃ y, y = outF G ud f := ⟨_, rfl⟩
                      rw [← hy] at hp
                      have hyt : fcT y < 4 * n := by rw [hy]; exact hlt _ _
                      have hyp := fcP_lt y hum4
                      have hm := hI.met
                      have lm := (List.getElem?_eq_some_iff.1 hm).1
                      obtain ⟨H1, hH1⟩ : ∃ H1, H1 = h ++ [O.cells (fcC y) 99 (some 0)] := ⟨_, rfl⟩
                      have hs1 : Sub h H1 := by rw [hH1]; exact (Sub.refl _).app _
                      have h18 : H1[h.length]? = some (O.cells (fcC y) 99 (some 0)) := by rw [hH1, app_at0]; rfl
                      have hm1 := hs1 _ _ hm
                      have hI1 : CInv H H1 n h4.length (t * 4 + i) G xs bs2 vo := ⟨fun b o hb hn' => hs1 _ _ (hI.keep b o hb hn'), hm1, hI.out.keep fun b s _ e => hs1 _ _ e⟩
                      have hQ1 : CQv H H1 n (t * 4 + i) k2 f qb (nbF (outF G)) bs bs2 qs := ⟨hQ.q, hQ.own.keep fun b s _ e => hs1 _ _ e, hQ.cnt, hQ.hd⟩
                      have hyi : (fcC y)[1 + um]? = some (.int .i64 (fcP y um)) := by
                        rw [fcC_eq]
                        match um, hum4 with
                        | 0, _ => rfl
                        | 1, _ => rfl
                        | 2, _ => rfl
                        | 3, _ => rfl
                      have hum' : (um : Int) < 4 := by omega
                      have hyp' : ((fcP y um : Nat) : Int) < 4 := by omega
                      have hyt' : ((fcT y : Nat) : Int) < 4 * n := by omega
                      have hwN : fcT y * 4 + fcP y um < 16 * n := by omega
                      have hwb : fcT y * 4 + fcP y um < bs2.length := by rw [hQ.q.len]; exact hwN
                      rw [fcC_eq] at hp hH1 h18 hyi
                      by_cases hfe : f = um
                      · have hnone : nbF (outF G) (qn qs k2) f = none := by rw [← hu]; unfold nbF; rw [if_pos (by rw [hfe, hum])]
                        subst hfe
                        simp [g1, g5, g6, g9, g10, g38, g39, g11, g42, g12, g13, g14, g16, g80, g81, hf', hp, wrN_at0, set_at0, ← hH1, hwf]
                        exact ⟨kk3 - 1, by omega, f + 1, by omega, H1, ⟨rfl, by have := hs1.len; have := lm; omega⟩, bs2, hI1, qs, qb, ⟨hQ1.q.pass (fun w hw' => by rw [hnone] at hw'; cases hw'), hQ1.own, hQ1.cnt, hQ1.hd⟩, hk2, hu, ⟨rfl, rfl⟩, by omega⟩
                      · have hfe' : ¬ ((f : Int) = (um : Int)) := by omega
                        have hsome : nbF (outF G) (qn qs k2) f = some (fcT y * 4 + fcP y um) := by
                          rw [← hu]; unfold nbF; rw [if_neg (by omega), hy, hud, hum]
                        cases hbm : bnth bs2 (fcT y * 4 + fcP y um)
                        · have b5 : fcT y * 4 + fcP y um + 1 ≤ bs2.length := by omega
                          have nhm : h4.length ≠ h.length := by omega
                          obtain ⟨H2, hH2⟩ : ∃ H2, H2 = H1.set h4.length (O.cells (boolsC (bs2.set (fcT y * 4 + fcP y um) true)) 109 (some 0)) := ⟨_, rfl⟩
                          have h182 := set_ne (x := O.cells (boolsC (bs2.set (fcT y * 4 + fcP y um) true)) 109 (some 0)) (a := h4.length) h18 (Ne.symm nhm)
                          rw [← hH2] at h182
                          have hm2 : H2[h4.length]? = some (O.cells (boolsC (bs2.set (fcT y * 4 + fcP y um) true)) 109 (some 0)) := by rw [hH2]; exact set_self hm1
                          have lH1 : H1.length = h.length + 1 := by rw [hH1]; simp
                          have lH2 : H2.length = h.length + 1 := by rw [hH2, List.length_set, lH1]
                          have K2 : ∀ (b : Nat) (o : O), h[b]? = some o → b ≠ h4.length → H2[b]? = some o := fun b o hb hn' => by rw [hH2]; exact set_ne (hs1 _ _ hb) hn'
                          obtain ⟨qlo, qsz, qat⟩ := hQ.own.at_
                          have nqm : qb ≠ h4.length := fun e => by rw [e, hm] at qat; simp at qat
                          have hown3 : OwnS (H2 ++ [O.cells [.int .i64 (fcT y), .int .i64 (fcP y um)] 110 (some 0)]) H.length (.slice (some ⟨qb, 0, none⟩) qs.length qs.length) qs.length (nodesC qs) 110 2 := hQ.own.keep fun b s e1 e2 => app_of (K2 _ _ e2 (by simp at e1; omega)) _
                          have hread : readSlice (H2 ++ [O.cells [.int .i64 (fcT y), .int .i64 (fcP y um)] 110 (some 0)]) 2 1 (some ⟨H2.length, 0, none⟩) = some [.int .i64 (fcT y), .int .i64 (fcP y um)] := by simp [readSlice, rdN_at0]
                          have hcnt := hQ.cnt
                          have hunm := unm_set hwb hbm
                          have lHh : H.length ≤ h.length := by
                            rcases Nat.lt_or_ge h.length H.length with hc | hc
                            · have := hI.keep (H.length - 1)
                              have h1' : H[h4.length]? ≠ none := by rw [hM]; simp
                              omega
                            · exact hc
                          obtain ⟨b', H4, f4, happ, hb', hown, hf1, hf2, hL4, K4⟩ := append_S (fl := h0.length) (c := 1) (bytes := 16) hown3 hread (by simp) (by simp) (by simp; omega) (by simp only [roomMax]; omega) (by omega)
                          obtain rfl : f4 = h0.length := by omega
                          have hmin3 : min h0.length (min h.length h4.length) = h0.length := by omega
                          simp [g1, g5, g6, g9, g10, g38, g39, g11, g42, g12, g13, g14, g16, g80, g81, hf', hp, wrN_at0, set_at0, ← hH1, hwf, hfe, rd_def, h18, hyi, hum', hyp', hyt', hm1, boolsC_get hwb, hbm, wrN_def, b5, boolsC_set, ← hH2, h182, bit, nhm, nhm.symm, hmin3, happ]
                          obtain ⟨w, hwe⟩ : ∃ w, w = fcT y * 4 + fcP y um := ⟨_, rfl⟩
                          have w1 : w / 4 = fcT y := by omega
                          have w2 : w % 4 = fcP y um := by omega
                          have hown' : OwnS H4 H.length (.slice (some ⟨b', 0, none⟩) (qs ++ [w]).length (qs ++ [w]).length) (qs ++ [w]).length (nodesC (qs ++ [w])) 110 2 := by
                            rw [nodesC_app, w1, w2]; simpa using hown
                          rw [← hwe] at hsome hwN hwb hunm hm2
                          refine ⟨kk3 - 1, by omega, f + 1, by omega, bs2.set w true, ⟨fun b o hb hn' => ?_, ?_, ?_⟩, qs ++ [w], b', ⟨hQ.q.add hk2 hf hsome hwN, hown', by simp; omega, ?_⟩, by simp; omega, by rw [qn_snoc (by omega), if_pos hk2]; exact hu, ⟨rfl, by simp⟩, by omega⟩
                          · have hbl := (List.getElem?_eq_some_iff.1 hb).1
                            exact K4 _ _ (app_of (K2 _ _ (hI.keep b o hb hn') hn') _) (fun n c e => by simp at e <;> omega)
                          · exact K4 _ _ (app_of hm2 _) (fun n c e => by simp at e <;> omega)
                          · exact hI.out.keep fun b s e1 e2 => K4 _ _ (app_of (K2 _ _ e2 (fun e => by rw [e, hm] at e2; simp at e2)) _) (fun n c e => by
                              simp at e
                              rw [e.1] at qat
                              rw [qat] at e2
                              simp at e2)
                          · rw [bnth_set hwb]
                            split
                            · rfl
                            · exact hQ.hd
                        · simp [g1, g5, g6, g9, g10, g38, g39, g11, g42, g12, g13, g14, g16, g80, g81, hf', hp, wrN_at0, set_at0, ← hH1, hwf, hfe, rd_def, h18, hyi, hum', hyp', hyt', hm1, boolsC_get hwb, hbm]
                          exact ⟨kk3 - 1, by omega, f + 1, by omega, H1, ⟨rfl, by have := lm; omega⟩, bs2, hI1, qs, qb, ⟨hQ1.q.pass (fun w hw' => by rw [hsome] at hw'; obtain rfl := Option.some.inj hw'; exact hbm), hQ1.own, hQ1.cnt, hQ1.hd⟩, hk2, hu, ⟨rfl, rfl⟩, by omega⟩
                    · have hf4 : f = 4 := by omega
                      subst hf4
                      have hwk : IntKind.i64.wrap ((k2 : Int) + 1) = (k2 : Int) + 1 := by have := hQ.cnt; rw [w64_id] <;> omega
                      simp [g1, g5, g6, g9, g10, g38, g39, g11, g42, g12, g13, g14, g16, g80, g81, hwk]
                      have hcq := hQ.cnt
                      exact ⟨kk2 - 1, by omega, k2 + 1, by omega, bs2, hI, qs, qb, ⟨hQ.q.next, hQ.own, hQ.cnt, hQ.hd⟩, hk2, ⟨rfl, rfl⟩, by omega⟩
                  · refine ⟨0, h, bs2, qs, qb, by omega, rfl, hI, hQ, hk2, hu, ?_⟩
                    simp [g1, g5, g6, g9, g10, g38, g39, g11, g42, g12, g13, g14]
                · have hkl : k2 = qs.length := by omega
                  have hfin := hQ.q.finish hCB hkl hQ.hd
                  have hDh := hI.keep _ _ hDH nmb1
                  have hCh := hI.keep _ _ hCH nmb4
                  have hout := hI.out
                  have hcn : t / 4 < n := by omega
                  obtain ⟨cc, hcc⟩ : ∃ cc, cc = t / 4 := ⟨_, rfl⟩
                  rw [← hcc] at hcn
                  have hcl : cuspL G xs (t * 4 + i + 1) = cuspL G xs (t * 4 + i) ++ [cuspV G xs (t * 4 + i)] := by
                    unfold cuspL
                    rw [firstsV_new fun hx => hmet ((hCB.met (fun u f w _ _ hw => hnb u f w hw) hv).2 hx), List.map_append]
                    rfl
                  have hcv : cuspV G xs (t * 4 + i) = if i = 0 then nth xs (G.X cc 1) else if i = 1 then nth xs (G.X cc 0) else 1 - (i : Int) := by
                    unfold cuspV
                    rw [vm, show (t * 4 + i) / 16 = cc by omega]
                    match i, hi with
                    | 0, _ => rfl
                    | 1, _ => rfl
                    | 2, _ => rfl
                    | 3, _ => rfl
                  have hlc := cuspL_len G xs (t * 4 + i)
                  have lHh : H.length ≤ h.length := by have := (List.getElem?_eq_some_iff.1 hI.met).1; omega
                  have key : ∃ b' H4, appendV 3 1 8 vo (.slice (some ⟨h.length, 0, none⟩) 1 1) ⟨h ++ [O.cells [.int .i64 (cuspV G xs (t * 4 + i))] 3 (some 0)], h0.length⟩ = some (.slice (some ⟨b', 0, none⟩) ((cuspL G xs (t * 4 + i)).length + 1) ((cuspL G xs (t * 4 + i)).length + 1), ⟨H4, h0.length⟩) ∧
                      CInv H H4 n h4.length (t * 4 + i + 1) G xs bs2 (.slice (some ⟨b', 0, none⟩) ((cuspL G xs (t * 4 + i)).length + 1) ((cuspL G xs (t * 4 + i)).length + 1)) := by
                    have hread : readSlice (h ++ [O.cells [.int .i64 (cuspV G xs (t * 4 + i))] 3 (some 0)]) 1 1 (some ⟨h.length, 0, none⟩) = some [.int .i64 (cuspV G xs (t * 4 + i))] := by simp [readSlice, rdN_at0]
                    have hown3 : OwnS (h ++ [O.cells [.int .i64 (cuspV G xs (t * 4 + i))] 3 (some 0)]) H.length vo (cuspL G xs (t * 4 + i)).length (intsC (cuspL G xs (t * 4 + i))) 3 1 := hout.keep fun b s e1 e2 => app_of e2 _
                    obtain ⟨b', H4, f4, happ, hb', hown, hf1, hf2, hL4, K4⟩ := append_S (fl := h0.length) (c := 1) (bytes := 8) hown3 hread (by simp) (by simp) (by simp; omega) (by simp only [roomMax]; omega) (by omega)
                    obtain rfl : f4 = h0.length := by omega
                    refine ⟨b', H4, happ, fun b o hb hn' => ?_, ?_, ?_⟩
                    · have hbl := (List.getElem?_eq_some_iff.1 hb).1
                      refine K4 _ _ (app_of (hI.keep b o hb hn') _) (fun n c e => ?_)
                      rcases hout.2 with ⟨e1, _⟩ | ⟨b2, s2, e1, e2, _⟩
                      · rw [e1] at e; cases e
                      · rw [e1] at e; simp at e <;> omega
                    · refine K4 _ _ (app_of hI.met _) (fun n c e => ?_)
                      rcases hout.2 with ⟨e1, _⟩ | ⟨b2, s2, e1, e2, _⟩
                      · rw [e1] at e; cases e
                      · rw [e1] at e; simp at e <;> omega
                    · rw [hcl]
                      simpa [intsC] using hown
                  obtain ⟨b', H4, happ, hI4⟩ := key
                  have hci : (cc : Int) < n := by omega
                  have hquo : binV .quo (.int .i64 t) (.int .i64 4) = some (.int .i64 cc) := by
                    rw [binV_quo (by decide), show ((t : Int)).tdiv 4 = cc by rw [Int.tdiv_eq_ediv_of_nonneg (by omega)]; omega, w64_id] <;> omega
                  have hx1 : ∀ q, q < 4 → G.X cc q < xs.length ∧ ((G.X cc q : Nat) : Int) < 2 * n := fun q hq => by
                    have := hG.X cc q (by omega) hq
                    have := hO.len
                    omega
                  obtain ⟨xb, xo, hxa, hxr⟩ := hxH
                  obtain rfl := hxa (by omega)
                  have hread : ∀ q, q < 4 → rd h xb (xo + cc * 5 + q) = some (.int .i64 (G.X cc q)) := fun q hq => by
                    have hb4 : xb ≠ h4.length := by
                      have hx2 := hx
                      obtain ⟨yb, yo, hya, hyr⟩ := hx2
                      have := hya (by omega)
                      simp at this
                      have h5 := hyr 0 (by omega)
                      have := rdN_lt h5
                      omega
                    have h6 : rdN h xb (xo + cc * 5) 5 = some (crossC (x cc) (s cc)) := by
                      have h7 := hxr cc hcn
                      rw [rdN_def] at h7 ⊢
                      cases hb : H[xb]? with
                      | none => rw [hb] at h7; simp [rdNO] at h7
                      | some o => rw [hI.keep _ _ hb hb4, ← hb]; exact h7
                    rw [rd_of_rdN h6 (show q < 5 by omega), ← hxe cc q hcn hq]
                    match q, hq with
                    | 0, _ => rfl
                    | 1, _ => rfl
                    | 2, _ => rfl
                    | 3, _ => rfl
                  obtain ⟨p0, p1⟩ := hx1 0 (by omega)
                  obtain ⟨q0, q1⟩ := hx1 1 (by omega)
                  have r0 := hread 0 (by omega)
                  have r1 := hread 1 (by omega)
                  rw [rd_def] at r0 r1
                  simp only [Nat.add_zero] at r0
                  have fin : ∃ k', k' < kk' ∧ ∃ i_1, i_1 + k' = 4 ∧ ∃ x, CB (16 * n) (nbF (outF G)) (t * 4 + i_1) x ∧ ∃ x_1, CInv H H4 n h4.length (t * 4 + i_1) G xs x x_1 ∧ Value.slice (some ⟨b', 0, none⟩) ((cuspL G xs (t * 4 + i)).length + 1) ((cuspL G xs (t * 4 + i)).length + 1) = x_1 ∧ (i : Int) + 1 = i_1 :=
                    ⟨kk' - 1, by omega, i + 1, by omega, bs2, hfin, _, hI4, rfl, by omega⟩
                  by_cases i0 : i = 0
                  · rw [hcv, if_pos i0] at happ
                    have hi0 : (i : Int) = 0 := by omega
                    simp [g1, g5, g6, g9, g10, g38, g39, g11, g42, g12, g13, g14, hk2, rd_def, hDh, hquo, hci, hcn, r0, r1, q1, hCh, intsC_get q0, happ, eq_true i0, eq_true hi0, hw]
                    exact fin
                  · have hi0 : ¬ (i : Int) = 0 := by omega
                    by_cases i1 : i = 1
                    · rw [hcv, if_neg i0, if_pos i1] at happ
                      have hi1 : (i : Int) = 1 := by omega
                      simp [g1, g5, g6, g9, g10, g38, g39, g11, g42, g12, g13, g14, hk2, rd_def, hDh, hquo, hci, hcn, r0, r1, p1, hCh, intsC_get p0, happ, i0, hi0, eq_true i1, eq_true hi1, hw]
                      exact fin
                    · have hi1 : ¬ (i : Int) = 1 := by omega
                      rw [hcv, if_neg i0, if_neg i1] at happ
                      have hw3 : IntKind.i64.wrap (1 - (i : Int)) = 1 - (i : Int) := by rw [w64_id] <;> omega
                      simp [g1, g5, g6, g9, g10, g38, g39, g11, g42, g12, g13, g14, hk2, happ, i0, hi0, i1, hi1, hw, hw3]
                      exact fin
              · refine ⟨0, _, bs.set (t * 4 + i) true, [t * 4 + i], h.length, by omega, rfl, ⟨fun b o hb hn' => ?_, ?_, ?_⟩, ⟨CQ.start hCB hv, ?_, ?_, ?_⟩, by simp, ?_⟩
                · exact app_of (set_ne (hI.keep b o hb hn') hn') _
                · exact app_of (set_self hm) _
                · exact hI.out.keep fun b s e1 e2 => app_of (set_ne e2 (fun e => by rw [e, hm] at e2; simp at e2)) _
                · refine ⟨by simp [nodesC], .inr ⟨h.length, 0, rfl, ?_, ?_, .inl rfl⟩⟩
                  · omega
                  · have : (h.set h4.length (O.cells (boolsC (bs.set (t * 4 + i) true)) 109 (some 0))).length = h.length := List.length_set
                    rw [← this, app_at0]
                    simp [nodesC]
                    exact ⟨by omega, by omega⟩
                · have h1' := unm_set hvb hmf
                  have h2' := unm_le bs
                  have h3' := hCB.len
                  simp
                  omega
                · rw [bnth_set hvb, if_pos rfl]
                · simp [g1, g5, g6, g9, g10, g38, g39, g11, g42]
          · have hi4 : i = 4 := by omega
            subst hi4
            have hw : IntKind.i64.wrap ((t : Int) + 1) = (t : Int) + 1 := by rw [w64_id] <;> omega
            simp [g1, g5, g6, g9, g10, g38, g39, g11, g42, hw]
            refine ⟨kk - 1, by omega, t + 1, by omega, bs, ?_, vo, ?_, rfl, by omega⟩
            · rw [show (t + 1) * 4 = t * 4 + 4 by omega]; exact hCB
            · rw [show (t + 1) * 4 = t * 4 + 4 by omega]; exact hI
        · exact ⟨0, h, bs, vo, by omega, rfl, hCB, hI, by simp [g1, g5, g6, g9, g10, g38, g39]⟩
      · have htn : t = 4 * n := by omega
        subst htn
        simp [g1, g5, g6, g9, g10, g38, g39]
        have hsub : Sub h0 h := fun b o hb => hI.keep _ _ (hs0H _ _ hb) (by have := (List.getElem?_eq_some_iff.1 hb).1; omega)
        have hout := hI.out
        rw [show 4 * n * 4 = 16 * n by omega] at hout
        have lHh : h0.length ≤ H.length := hs0H.len
        unfold pairQ back
        rcases hout.2 with ⟨e1, e2⟩ | ⟨b2, s2, e1, e2, e3, e4⟩
        · rw [e1]
          rw [if_pos (by simp [Out.scalar, scalar, flat1, flat])]
          refine ⟨xs, ⟨k, hO⟩, .slice none 0 0, rfl, Nat.le_refl _, Sub.refl _, ?_⟩
          have hL : cuspL G xs (16 * n) = [] := List.length_eq_zero_iff.1 e2
          rw [hL]
          exact OwnS.nil _ _ _ _
        · rw [e1]
          rw [if_neg (by simp [Out.scalar, scalar, flat1, flat])]
          exact ⟨xs, ⟨k, hO⟩, _, rfl, Nat.le_refl _, hsub, hout.1, .inr ⟨b2, s2, rfl, by omega, e3, e4⟩⟩
    · refine ⟨0, H, List.replicate (16 * n) false, .slice none 0 0, by omega, by rw [show min h0.length h2.length = h0.length by omega], ?_, ⟨fun b o hb _ => hb, hM, ?_⟩, by simp⟩
      · rw [Nat.zero_mul]; exact CB.start
      · exact OwnS.nil _ _ _ _
  · simp [DC_of hask, joined_fl, hk, back_scalar, Out.scalar, scalar, flat1, flat]
end Go.Proofs.Ytjlkndkedknocaa
namespace Go.Proofs.Ytjlkndkedknocaa
open Go Go.Ai
set_option linter.unusedSimpArgs false
set_option linter.unusedVariables false
attribute [local instance] Classical.propDecidable
theorem rdN_block {h : List O} {b o n : Nat} {l : List Value} (hr : rdN h b o n = some l) : ∃ c el ow, h[b]? = some (.cells c el ow) ∧ o + n ≤ c.length ∧ l = (c.drop o).take n := by
  unfold rdN at hr
  split at hr
  · rename_i c el ow hb
    split at hr
    · rename_i hl
      exact ⟨c, el, ow, hb, hl, (Option.some.inj hr).symm⟩
    · cases hr
  · cases hr
/-- All crossings as one piece of memory. -/
theorem CrossP.whole {h : List O} {a : Option Addr} {n : Nat} {x : Nat → Nat → Int} {s : Nat → Int} (k : CrossP h a n x s) (hn : 0 < n) : ∃ b o l, a = some ⟨b, o, none⟩ ∧ rdN h b o (n * 5) = some l ∧ l.length = n * 5 ∧ l.all one1 = true ∧ ∀ i, i < n → (l.drop (i * 5)).take 5 = crossC (x i) (s i) := by
  obtain ⟨b, o, h1, h2⟩ := k
  obtain ⟨c, el, ow, hb, hl, _⟩ := rdN_block (h2 (n - 1) (by omega))
  have hle : o + n * 5 ≤ c.length := by omega
  have hparts : ∀ i, i < n → (((c.drop o).take (n * 5)).drop (i * 5)).take 5 = crossC (x i) (s i) := fun i hi => by
    have h3 := h2 i hi
    rw [rdN_def, hb, rdNO_cells, if_pos (by omega)] at h3
    have h4 := Option.some.inj h3
    rw [List.drop_take, List.drop_drop, List.take_take, Nat.min_eq_left (by omega)]
    exact h4
  have hlen : ((c.drop o).take (n * 5)).length = n * 5 := by simp; omega
  obtain ⟨m, hm⟩ : ∃ m, m = (c.drop o).take (n * 5) := ⟨_, rfl⟩
  rw [← hm] at hparts hlen
  refine ⟨b, o, m, h1 hn, by rw [rdN_def, hb, rdNO_cells, if_pos hle, hm], hlen, ?_, hparts⟩
  clear hm
  rw [List.all_eq_true]
  intro v hv
  obtain ⟨j, hj, rfl⟩ := List.getElem_of_mem hv
  have hj2 : j < n * 5 := by omega
  have h3 := hparts (j / 5) (by omega)
  have h4 := congrArg (fun l => l[j % 5]?) h3
  simp only [List.getElem?_take, List.getElem?_drop] at h4
  rw [if_pos (Nat.mod_lt _ (by omega)), show j / 5 * 5 + j % 5 = j by omega, List.getElem?_eq_getElem hj] at h4
  have h5 : j % 5 < 5 := Nat.mod_lt _ (by omega)
  generalize j % 5 = q at h4 h5
  match q, h5 with
  | 0, _ => rw [Option.some.inj h4]; rfl
  | 1, _ => rw [Option.some.inj h4]; rfl
  | 2, _ => rw [Option.some.inj h4]; rfl
  | 3, _ => rw [Option.some.inj h4]; rfl
  | 4, _ => rw [Option.some.inj h4]; rfl
theorem append_e0 {el : TypeId} {size bytes c : Nat} {a : Option Addr} {st : St} : appendV el size bytes emptyS (.slice a 0 c) st = some (emptyS, st) := by
  have : readSlice st.h size 0 a = some [] := by unfold readSlice; split <;> simp
  simp [appendV, emptyS, this, appendCells]
theorem append_eN {el : TypeId} {size bytes b o n c fl : Nat} {H : List O} {l : List Value} (hr : rdN H b o (n * size) = some l) (hn : 0 < n) (hs : 0 < size) (hall : l.all one1 = true) (hroom : n * bytes ≤ roomMax) :
    appendV el size bytes emptyS (.slice (some ⟨b, o, none⟩) n c) ⟨H, fl⟩ = some (.slice (some ⟨H.length, 0, none⟩) n n, ⟨H ++ [.cells l el (some size)], fl⟩) := by
  have hns : ¬ n * size = 0 := by
    have := Nat.mul_pos hn hs; omega
  have hrd : readSlice H size n (some ⟨b, o, none⟩) = some l := by simp only [readSlice]; rw [if_neg hns]; exact hr
  simp only [appendV, emptyS, hrd, bind, Option.bind_some, appendCells]
  rw [if_neg (by omega), if_neg (by omega), if_pos ⟨by rw [Nat.zero_add]; exact hroom, hall⟩]
  simp [readSlice, kill]
variable {E : Env} (hE : OE E)
include hE
theorem few_ {h : List O} {a : Option Addr} {n c : Nat} {L : Int} : DR E 16 [dV a n c L] ⟨h, h.length⟩ (.ret (.bool (decide (n ≤ 8 ∨ 200 < n)))) ⟨h, h.length⟩ := by
  refine hE.fn (body := rb16) rfl ?_
  unfold rb16
  by_cases h1 : n ≤ 8
  · have h1' : (n : Int) ≤ 8 := by omega
    simp [dV, rd_at0, h1, h1']
  · have h1' : ¬ (n : Int) ≤ 8 := by omega
    by_cases h2 : 200 < n
    · have h2' : (200 : Int) < n := by omega
      simp [dV, rd_at0, h1, h1', h2, h2']
    · have h2' : ¬ (200 : Int) < n := by omega
      simp [dV, rd_at0, h1, h1', h2, h2']
theorem Copied_ {h0 : List O} {a : Option Addr} {n c : Nat} {x : Nat → Nat → Int} {s : Nat → Int} {L : Int} (hx : CrossP h0 a n x s) (hroom : n * 40 ≤ roomMax) :
    DC E 39 [dV a n c L] ⟨h0, h0.length⟩ fun o st' => ∃ a' c', o = .ret (dV a' n c' L) ∧ h0.length ≤ st'.fl ∧ Sub h0 st'.h ∧ CrossP st'.h a' n x s := by
  refine hE.fnC (body := rb39) rfl ?_
  unfold rb39
  have b1 : blk emptyS = [] := rfl
  have b2 : one1 emptyS = true := rfl
  have b3 : emptyS.cells = #[emptyS] := rfl
  rcases Nat.eq_zero_or_pos n with hn | hn
  · subst hn
    simp [dV, List.append_assoc, rd_at0, rd_at, bit, append_e0, wrN_at, set_at, rdN_at, b1, b2, b3]
    unfold pairQ back
    split
    · exact ⟨some ⟨0, 0, some 0⟩, ⟨0, rfl⟩, Nat.le_refl _, Sub.refl _, 0, 0, fun h => by omega, fun i h => by omega⟩
    · exact ⟨some ⟨0, 0, some 0⟩, ⟨0, rfl⟩, Nat.le_refl _, (Sub.refl _).app _, 0, 0, fun h => by omega, fun i h => by omega⟩
  · obtain ⟨b, o, l, rfl, hl, hlen, hall, hparts⟩ := hx.whole hn
    have hap := append_eN (el := 107) (bytes := 40) (c := c) (fl := h0.length) (rdN_app hl [O.cells [.slice (some ⟨b, o, none⟩) n c, .int .i64 L] 24 (some 0), O.cells [.slice none 0 0, .int .i64 0] 24 (some 0)]) hn (by omega) hall hroom
    simp at hap
    have hbk : b ≠ h0.length + 1 := by have := rdN_lt hl; omega
    have hbk2 : b ≠ h0.length := by have := rdN_lt hl; omega
    simp [dV, List.append_assoc, rd_at0, rd_at, bit, hap, wrN_at, set_at, rdN_at, b1, b2, b3, hbk, hbk.symm, hbk2, hbk2.symm]
    unfold pairQ back
    rw [if_neg (by simp [Out.scalar, scalar, flat1, flat])]
    refine ⟨_, ⟨n, rfl⟩, Nat.le_refl _, (Sub.refl _).app _, h0.length + 2, 0, fun _ => rfl, fun i hi => ?_⟩
    rw [rdN_at]
    simp only [List.getElem?_cons_succ, List.getElem?_cons_zero, rdNO_cells]
    rw [if_pos (by omega), Nat.zero_add, hparts i hi]
theorem Same_ {h : List O} {a a' : Option Addr} {n c c' : Nat} {x : Nat → Nat → Int} {s : Nat → Int} {L : Int} (hx : CrossP h a n x s) (hx' : CrossP h a' n x s) (hn : n * 40 ≤ roomMax) :
    DR E 40 [dV a n c L, dV a' n c' L] ⟨h, h.length⟩ (.ret (.bool true)) ⟨h, h.length⟩ := by
  refine hE.fn (body := rb40) rfl ?_
  unfold rb40
  simp only [roomMax] at hn
  simp [dV, List.append_assoc, rd_at0, rd_at]
  obtain ⟨hB, hhB⟩ : ∃ H, H = h ++ [O.cells [.slice a n c, .int .i64 L] 24 (some 0), O.cells [.slice a' n c', .int .i64 L] 24 (some 0)] := ⟨_, rfl⟩
  have hBs : Sub h hB := by rw [hhB]; exact (Sub.refl _).app _
  have hB0 : hB[h.length]? = some (O.cells [.slice a n c, .int .i64 L] 24 (some 0)) := by rw [hhB, app_at0]; rfl
  have hB1 : hB[h.length + 1]? = some (O.cells [.slice a' n c', .int .i64 L] 24 (some 0)) := by rw [hhB, app_at]; rfl
  rw [← hhB]
  obtain ⟨xb, xo, hxa, hxr⟩ := hx.sub hBs
  obtain ⟨yb, yo, hya, hyr⟩ := hx'.sub hBs
  refine DW_loop (fun kk fr st => ∃ (i : Nat), i + kk = n ∧ st = ⟨hB, h.length⟩ ∧ get fr 2 = .pointer (some ⟨h.length, 0, none⟩) ∧ get fr 3 = .pointer (some ⟨h.length + 1, 0, none⟩) ∧ get fr 5 = .int .i64 i) ?_ (k := n) ?_
  · rintro kk fr st ⟨i, hik, rfl, g2, g3, g5⟩
    by_cases hi : i < n
    · have hw : IntKind.i64.wrap ((i : Int) + 1) = (i : Int) + 1 := by rw [w64_id] <;> omega
      obtain rfl := hxa (by omega)
      obtain rfl := hya (by omega)
      have r1 := hxr i hi
      have r2 := hyr i hi
      have heq : ∀ a b c d e : Int, eqCells [Value.int .i64 a, .int .i64 b, .int .i64 c, .int .i64 d, .int .i64 e] [Value.int .i64 a, .int .i64 b, .int .i64 c, .int .i64 d, .int .i64 e] = true := fun a b c d e => by simp [eqCells, eqCell]
      have hkc : ∀ a b c d e : Int, keyCells [some .i64, some .i64, some .i64, some .i64, some .i64] true (.agg #[.int .i64 a, .int .i64 b, .int .i64 c, .int .i64 d, .int .i64 e]) = some [.int .i64 a, .int .i64 b, .int .i64 c, .int .i64 d, .int .i64 e] := fun a b c d e => rfl
      simp only [crossC] at r1 r2
      simp [g2, g3, g5, rd_def, hB0, hB1, hi, r1, r2, hkc, heq, hw]
      exact ⟨kk - 1, by omega, i + 1, by omega, by omega⟩
    · have hin : i = n := by omega
      subst hin
      simp [g2, g3, g5, rd_def, hB0, hB1]
  · exact ⟨0, by omega, rfl, by simp⟩
theorem law6 {h0 : List O} {a : Option Addr} {n c : Nat} {x : Nat → Nat → Int} {s : Nat → Int} {L : Int} {arc : Int} (hx : CrossP h0 a n x s) (hroom : n * 40 ≤ roomMax) (hsane : ∀ h, DR E 15 [] ⟨h, h.length⟩ (.ret (.bool true)) ⟨h, h.length⟩) :
    DR E 6 [dV a n c L, .int .i64 arc] ⟨h0, h0.length⟩ (.ret (.bool true)) ⟨h0, h0.length⟩ := by
  refine hE.fn (body := rb6) rfl ?_
  unfold rb6
  obtain ⟨hB, hhB⟩ : ∃ H, H = h0 ++ [O.cells [.slice a n c, .int .i64 L] 24 (some 0)] := ⟨_, rfl⟩
  have hBs : Sub h0 hB := by rw [hhB]; exact (Sub.refl _).app _
  have lB : hB.length = h0.length + 1 := by rw [hhB]; simp
  have hB0 : hB[h0.length]? = some (O.cells [.slice a n c, .int .i64 L] 24 (some 0)) := by rw [hhB, app_at0]; rfl
  have hfew := few_ hE (h := hB) (a := a) (n := n) (c := c) (L := L)
  simp [dV, ← hhB, DC_q hsane, rdN_def, hB0]
  simp only [dV] at hfew
  by_cases hn : n ≤ 8 ∨ 200 < n
  · have hcp := Copied_ hE (c := c) (L := L) (hx.sub hBs) hroom
    simp only [dV] at hcp
    simp only [hn, decide_true] at hfew
    simp [DC_of hfew, joined_fl, rdN_def, hB0]
    refine hcp.imp ?_
    rintro o ⟨h1, f1⟩ ⟨a', c', rfl, hf1, hs1, hx1⟩
    simp only at hf1 hs1 hx1
    obtain ⟨h2, hh2⟩ : ∃ H, H = h1 ++ [O.cells [.slice a' n c', .int .i64 L] 24 (some 0)] := ⟨_, rfl⟩
    have hs12 : Sub h1 h2 := by rw [hh2]; exact (Sub.refl _).app _
    have h2a : h2[h1.length]? = some (O.cells [.slice a' n c', .int .i64 L] 24 (some 0)) := by rw [hh2, app_at0]; rfl
    have hl1 := hs1.len
    have hmin : min h0.length h1.length = h0.length := by omega
    have hmx := Mixed_ hE (c := c') (L := L) (hx1.sub hs12)
    have hou := Outside_ hE (c := c') (L := L) (hx1.sub hs12)
    simp only [dV] at hmx hou
    simp [dV, joined_fl, hf1, wrN_at0, set_at0, ← hh2, rdN_def, h2a, DC_of hmx, hmin]
    have k1 : DC E 18 [.agg #[.slice a' n c', .int .i64 L]] ⟨h2, h2.length⟩ fun o st' => (∃ v, o = .ret v) ∧ h2.length ≤ st'.fl ∧ Sub h2 st'.h := hou.imp fun o st' h => by
      rcases h with ⟨_, rfl, rfl⟩ | ⟨_, fb, rfl, _, h3, h4, _⟩
      · exact ⟨⟨_, rfl⟩, Nat.le_refl _, Sub.refl _⟩
      · exact ⟨⟨_, rfl⟩, h3, h4⟩
    refine k1.imp ?_
    rintro o ⟨h3, f3⟩ ⟨⟨v3, rfl⟩, hf3, hs3⟩
    simp only at hf3 hs3
    have hcu := Cusps_ hE (c := c') (L := L) (hx1.sub (hs12.trans hs3))
    simp only [dV] at hcu
    simp [joined_fl, hf3, rdN_def, hs3 _ _ h2a]
    have k2 : DC E 23 [.agg #[.slice a' n c', .int .i64 L]] ⟨h3, h3.length⟩ fun o st' => (∃ v, o = .ret v) ∧ h3.length ≤ st'.fl ∧ Sub h3 st'.h := hcu.imp fun o st' h => by
      rcases h with ⟨_, rfl, rfl⟩ | ⟨_, xs, k, v, _, rfl, h3, h4, _⟩
      · exact ⟨⟨_, rfl⟩, Nat.le_refl _, Sub.refl _⟩
      · exact ⟨⟨_, rfl⟩, h3, h4⟩
    refine k2.imp ?_
    rintro o ⟨h4, f4⟩ ⟨⟨v4, rfl⟩, hf4, hs4⟩
    simp only at hf4 hs4
    have har := Arc_ hE (c := c') (L := L) (hx1.sub (hs12.trans (hs3.trans hs4))) (arc := arc)
    simp only [dV] at har
    simp [joined_fl, hf4, rdN_def, hs4 _ _ (hs3 _ _ h2a)]
    have k3 : DC E 26 [.agg #[.slice a' n c', .int .i64 L], .int .i64 arc] ⟨h4, h4.length⟩ fun o st' => (∃ v, o = .ret v) ∧ h4.length ≤ st'.fl ∧ Sub h4 st'.h := har.imp fun o st' h => by
      rcases h with ⟨_, rfl, rfl⟩ | ⟨_, _, rfl, rfl⟩ | ⟨_, _, b, rfl, _, h3, h4, _⟩
      · exact ⟨⟨_, rfl⟩, Nat.le_refl _, Sub.refl _⟩
      · exact ⟨⟨_, rfl⟩, Nat.le_refl _, Sub.refl _⟩
      · exact ⟨⟨_, rfl⟩, h3, h4⟩
    refine k3.imp ?_
    rintro o ⟨h5, f5⟩ ⟨⟨v5, rfl⟩, hf5, hs5⟩
    simp only at hf5 hs5
    have hs25 : Sub h2 h5 := hs3.trans (hs4.trans hs5)
    have hsB5 : Sub hB h5 := hs1.trans (hs12.trans hs25)
    have hsm := Same_ hE (c := c') (c' := c) (L := L) (hx1.sub (hs12.trans hs25)) (hx.sub (hBs.trans hsB5)) hroom
    simp only [dV] at hsm
    simp [joined_fl, hf5, rdN_def, hs25 _ _ h2a, hsB5 _ _ hB0, DC_of hsm]
  · simp only [hn, decide_false] at hfew
    simp [DC_of hfew, joined_fl]
end Go.Proofs.Ytjlkndkedknocaa
