/- Texts that were built one by one: Lw9, Lx1, Lx2, Lx3, Lx4. -/
import Derived.Test.YtdbkhecnkhjhpaaBj
import Derived.Test.YtdbkhecnkhjhpaaLp8
/- The contract of Solve. -/
namespace Go.Proofs.Ytdbkhecnkhjhpaa
open Go Go.Ai
set_option linter.unusedSimpArgs false
set_option linter.unusedVariables false
attribute [local instance] Classical.propDecidable
variable {E : Env} (hE : LpE E) {h : List O} {vA vB vC : Value} {A : List (List Int)} {B C : List Int}

/-- All ways come to one result. -/
def X39 (E : Env) (h : List O) (A : List (List Int)) (B C : List Int) : R → Fr → St → Post → Prop := fun r fr st _ => ∃ o s', Post39 h A B C o s' ∧ PW E r fr st (endK [.cell 2 (some 6)] ⟨h, h.length⟩ fun o2 s2 => o2 = o ∧ s2 = s')
include hE in
theorem solve39 (hS : SumsKept E) (H6 : Has60 E) (h39 : E.S 39 = none) (hp : LpAt h (.agg #[vA, vB, vC]) A B C) (hv : Valid A B C) (hsz : sizeZ A B C ≤ 268435456) :
    ∃ o s', Post39 h A B C o s' ∧ PC E 39 [.agg #[vA, vB, vC]] ⟨h, h.length⟩ fun o2 s2 => o2 = o ∧ s2 = s' := by
  have key : X39 E h A B C rb39 [.agg #[vA, vB, vC]] ⟨h, h.length⟩ (endK [.cell 2 (some 6)] ⟨h, h.length⟩ (Post39 h A B C)) := by
    refine pre39 hE hS H6 (X39 E h A B C) hp hv hsz (fun a b fr st hh => ?_) (fun fr' H' hr => post39 hv hr) ?_
    · obtain ⟨n, e, fr', st', hx, hq⟩ := hh
      cases e with
      | normal =>
        obtain ⟨o, s', P, hb⟩ := hq
        exact ⟨o, s', P, PW_seqD ⟨n, .normal, fr', st', hx, hb⟩⟩
      | exit i => exact hq.elim
      | ret =>
        obtain ⟨v, hv, P⟩ := hq
        exact ⟨_, _, P, PW_seqD ⟨n, .ret, fr', st', hx, v, hv, rfl, rfl⟩⟩
      | pan v =>
        have P : Post39 h A B C _ _ := hq
        exact ⟨_, _, P, PW_seqD ⟨n, .pan v, fr', st', hx, rfl, rfl⟩⟩
    · intro h1 p q L fr' M s l ck k F g g7 T hM hI hz hk
      obtain ⟨o, s', P, hD⟩ := rest39 hE hS H6 h39 F hv hsz T hM hI hz hk
      refine ⟨o, s', P, way39 hE F hv hsz T hM hI hz hk g g7 fun fr2 g2 g13 => PW_of_DW ?_⟩
      exact hD fr2 g2 g13
  obtain ⟨o, s', P, hP⟩ := key
  exact ⟨o, s', P, PC_fn (by rw [hE.F]; rfl) h39 hP⟩

theorem callable60 : Callable Try.prog 60 := callableB_ok (by decide +kernel)
theorem callable39 : Callable Try.prog 39 := callableB_ok (by decide +kernel)
noncomputable def E60 : Env := withSum E2 60
noncomputable def E39 : Env := withSum E60 39
theorem E60_kept : SumsKept E60 := withSum_kept E2_kept
theorem E39_kept : SumsKept E39 := withSum_kept E60_kept
theorem E60_ok (B : Nat) : EnvOk Fence.wide Try.prog B E60 := withSum_ok follows E2_ok E2_kept callable60 B
theorem E39_ok (B : Nat) : EnvOk Fence.wide Try.prog B E39 := withSum_ok follows E60_ok E60_kept callable39 B
theorem E60_lp : LpE E60 := E2_lp.with60
theorem E39_lp : LpE E39 := ⟨rfl, fun f h1 h2 h3 h4 => by
  simp only [E39, withSum]; rw [if_neg h3]; exact E60_lp.S f h1 h2 h3 h4⟩
theorem E60_has : Has60 E60 := has60 E2_lp (by simp [E2])
theorem E60_39 : E60.S 39 = none := by simp [E60, withSum, E2]
/-- The inner function, told by a summary. -/
theorem sum39 (hp : LpAt h (.agg #[vA, vB, vC]) A B C) (hv : Valid A B C) (hsz : sizeZ A B C ≤ 268435456) :
    ∃ o s', Post39 h A B C o s' ∧ DR E39 39 [.agg #[vA, vB, vC]] ⟨h, h.length⟩ o s' := by
  obtain ⟨o, s', P, hP⟩ := solve39 E60_lp E60_kept E60_has E60_39 hp hv hsz
  refine ⟨o, s', P, withSum_DR hP ?_⟩
  obtain ⟨kind, xd, yd, X, Y, R, vX, vY, vR, e1, hR, hX, hY, hRR, hb, hk, hf⟩ := P
  exact ⟨by simp only; omega, hk.1, fun id h1 h2 => hk.2 id h1⟩
end Go.Proofs.Ytdbkhecnkhjhpaa
/- The contract of Solve, with its deferred closure. -/
namespace Go.Proofs.Ytdbkhecnkhjhpaa
open Go Go.Ai
set_option linter.unusedSimpArgs false
set_option linter.unusedVariables false
attribute [local instance] Classical.propDecidable
variable {E : Env} {h : List O} {vA vB vC : Value} {A : List (List Int)} {B C : List Int}

theorem DW_both {r : R} {fr : Fr} {st : St} {Q Q' : Post} (a : DW E r fr st Q) (b : DW E r fr st Q') : ∃ e f s, Q e f s ∧ Q' e f s := by
  obtain ⟨n, e, f, s, h1, h2⟩ := a
  obtain ⟨m, e', f', s', k1, k2⟩ := b
  have x1 := exec_mono (Nat.le_max_left n m) h1
  have x2 := exec_mono (Nat.le_max_right n m) k1
  rw [x1] at x2
  simp only [Option.some.injEq, Prod.mk.injEq] at x2
  obtain ⟨rfl, rfl, rfl⟩ := x2
  exact ⟨e, f, s, h2, k2⟩
abbrev SolveR (E : Env) (args : List Value) (st : St) (o : Out) (st' : St) : Prop := solveR E s0 s2 s3 s7 sY srs 15 2 3 5 38 args st o st'
theorem SolveR.unique {args : List Value} {st st' st2 : St} {o o2 : Out} (a : SolveR E args st o st') (b : SolveR E args st o2 st2) : o = o2 ∧ st' = st2 := by
  obtain ⟨e, f, s, ⟨rfl, a1⟩, ⟨_, b1⟩⟩ := DW_both a b
  obtain ⟨e, f, s, a2, b2⟩ := DW_both a1 b1
  rcases a2 with ⟨rfl, rfl, v, hv, rfl⟩ | ⟨rfl, a2⟩
  · rcases b2 with ⟨_, rfl, v2, hv2, rfl⟩ | ⟨h, _⟩
    · rw [hv] at hv2; obtain rfl := Option.some.inj hv2; exact ⟨rfl, rfl⟩
    · cases h
  · rcases b2 with ⟨h, _⟩ | ⟨_, b2⟩
    · cases h
    · obtain ⟨e, f, s, a3, b3⟩ := DW_both a2 b2
      rcases a3 with ⟨rfl, rfl, v, hv, rfl⟩ | ⟨rfl, a3⟩
      · rcases b3 with ⟨_, rfl, v2, hv2, rfl⟩ | ⟨h, _⟩
        · rw [hv] at hv2; obtain rfl := Option.some.inj hv2; exact ⟨rfl, rfl⟩
        · cases h
      · rcases b3 with ⟨h, _⟩ | ⟨_, b3⟩
        · cases h
        · obtain ⟨e, f, s, ⟨t5, h5, a4⟩, ⟨t5', h5', b4⟩⟩ := DW_both a3 b3
          have : t5 = t5' := by
            rcases h5 with ⟨rfl, rfl⟩ | ⟨t, v, rfl, rfl⟩
            · rcases h5' with ⟨_, rfl⟩ | ⟨t, v, h, _⟩
              · rfl
              · cases h
            · rcases h5' with ⟨h, _⟩ | ⟨t', v', h, rfl⟩
              · cases h
              · cases h; rfl
          subst this
          obtain ⟨e, f, s, ⟨⟨_, rfl⟩, v, hv, rfl⟩, ⟨⟨_, rfl⟩, v2, hv2, rfl⟩⟩ := DW_both a4 b4
          rw [hv] at hv2; obtain rfl := Option.some.inj hv2; exact ⟨rfl, rfl⟩
/-- Solve as a summary. -/
noncomputable def solveS (E : Env) (args : List Value) (st : St) : Option (Out × St) :=
  if h : ∃ x : Out × St, SolveR E args st x.1 x.2 ∧ Kept st x.2 then some h.choose else none
theorem solveS_spec {args : List Value} {st st' : St} {o : Out} (h : solveS E args st = some (o, st')) : SolveR E args st o st' ∧ Kept st st' := by
  unfold solveS at h
  split at h
  · rename_i hx
    have := hx.choose_spec
    simp only [Option.some.injEq] at h
    rw [h] at this
    exact this
  · cases h
theorem solveS_eq {args : List Value} {st st' : St} {o : Out} (h : SolveR E args st o st') (hk : Kept st st') : solveS E args st = some (o, st') := by
  unfold solveS
  have hx : ∃ x : Out × St, SolveR E args st x.1 x.2 ∧ Kept st x.2 := ⟨(o, st'), h, hk⟩
  rw [dif_pos hx]
  obtain ⟨e1, e2⟩ := SolveR.unique hx.choose_spec.1 h
  rw [← e1, ← e2]
/-- What the solving laws are told over. -/
noncomputable def E3 : Env := ⟨rF, fun f => if f = 16 then some (solveS E39) else if f = 12 then some saneS else none⟩
theorem E3_lp : LpE E3 := ⟨rfl, fun f h1 h2 _ _ => by simp [E3, h1, h2]⟩
theorem E3_kept : SumsKept E3 := fun f s h args st o st' hs => by
  simp only [E3] at h
  split at h
  · obtain rfl := Option.some.inj h
    exact (solveS_spec hs).2
  · split at h
    · obtain rfl := Option.some.inj h
      cases args with
      | nil => simp only [saneS, Option.some.injEq, Prod.mk.injEq] at hs; obtain ⟨_, rfl⟩ := hs; exact Kept.refl _
      | cons a l => cases hs
    · cases h
theorem E3_ok (B : Nat) : EnvOk Fence.wide Try.prog B E3 := ⟨fun f rf h => rF_ok h, fun f s h => by
  simp only [E3] at h
  split at h
  · rename_i hf
    obtain rfl := Option.some.inj h
    subst hf
    refine ⟨callable16, fun args st o st' hs _ n ρ w args' ha hR => ?_⟩
    exact solve_calls (fn := Try.f16) (fg := Try.f38) (c0 := k0) (c2 := k2) (c3 := k3) (c7 := k7) (Y := kY) follows (E39_ok B) E39_kept Try.func38 rfl kY_ok (by decide) rfl callable38 Try.func16 rfl k0_ok k2_ok k3_ok k7_ok srs_ok (by decide) (solveS_spec hs).1 ha hR
  · split at h
    · rename_i hf
      obtain rfl := Option.some.inj h
      subst hf
      refine ⟨callable12, fun args st o st' hs _ n ρ w args' ha hR => ?_⟩
      cases args with
      | nil =>
        simp only [saneS, Option.some.injEq, Prod.mk.injEq] at hs
        obtain ⟨rfl, rfl⟩ := hs
        have : args' = [] := by have := ha.1; simpa using this.symm
        subst this
        exact sane_ok hR
      | cons a l => cases hs
    · cases h⟩
theorem sane12' (st : St) : DR E3 12 [] st (.ret (.bool true)) st := DR_sum (s := saneS) rfl rfl

/-- What Solve returns. -/
noncomputable def errS (A : List (List Int)) (B C : List Int) : Int := if Valid A B C then (if sizeZ A B C ≤ 268435456 then 0 else 2) else 120
def Post16 (h : List O) (A : List (List Int)) (B C : List Int) (o : Out) (st' : St) : Prop :=
  ∃ kind xd yd : Int, ∃ X Y R : List Int, ∃ w, o = .ret (.tuple #[w, .int .i64 (errS A B C)]) ∧ ResAt st'.h w kind X xd Y yd R ∧ (errS A B C = 0 → Right A B C kind X xd Y yd R) ∧ (errS A B C ≠ 0 → kind = 0 ∧ X = [] ∧ xd = 0 ∧ Y = [] ∧ yd = 0 ∧ R = []) ∧ Keep h st'.h ∧ st'.fl = h.length
theorem ints_new {H H' : List O} {n q : Nat} {v : Value} {X : List Int} (hv : Ints H v X) (hn : NewS n v) (hq : q < n) (hag : ∀ c, c < H.length → c ≠ q → H'[c]? = H[c]?) : Ints H' v X := by
  rcases hn with rfl | ⟨b, k, c, rfl, hb⟩
  · obtain ⟨a, b, o, c, e, _⟩ := id hv
    simp only [Value.slice.injEq] at e
    exact ints_none hv e.2.1.symm
  · exact ints_at hv (by omega) hag
theorem rs_srs {fr : Fr} {H : List O} {q r : Nat} {cs : List Value} {v : Value} (g2 : get fr 2 = .pointer (some ⟨q, 0, none⟩)) (g3 : get fr 3 = .pointer (some ⟨r, 0, none⟩)) (hq : H[q]? = some (.cells cs 27 (some 0))) (hl : cs.length = 6) (hr : H[r]? = some (.cells [v] 28 (some 0))) :
    resV fr H srs = some (.tuple #[.agg cs.toArray, v]) := by
  have h1 : rdN H q 0 6 = some cs := rdN6 hq hl
  have h2 : rd H r 0 = some v := by simp [rd, hr]
  simp [srs, resV, resAll, resOne, g2, g3, h1, h2]
theorem solve16R (hp : LpAt h (.agg #[vA, vB, vC]) A B C) : ∃ o st', SolveR E39 [.agg #[vA, vB, vC]] ⟨h, h.length⟩ o st' ∧ Post16 h A B C o st' := by
  obtain ⟨h1, q, r, pb, hx1, hlen, hq, hr, hpN, hqz, hrz, hpl, hrun⟩ : ∃ (h1 : List O) (q r pb : Nat), Ext h h1 ∧ h1.length = h.length + 3 ∧ q = h.length + 1 ∧ r = h.length + 2 ∧ rdN h1 pb 0 3 = some [vA, vB, vC] ∧ h1[q]? = some (.cells zeroRes6 27 (some 0)) ∧ h1[r]? = some (.cells [.int .i64 0] 28 (some 0)) ∧ pb = h.length ∧
      ∀ Q : Post, (∀ fr, get fr 1 = .pointer (some ⟨pb, 0, none⟩) → get fr 2 = .pointer (some ⟨q, 0, none⟩) → get fr 3 = .pointer (some ⟨r, 0, none⟩) → Q .normal fr ⟨h1, h.length⟩) → DW E39 s0 [.agg #[vA, vB, vC]] ⟨h, h.length⟩ Q := by
    refine ⟨((h ++ [.cells [vA, vB, vC] 25 (some 0)]) ++ [.cells zeroRes6 27 (some 0)]) ++ [.cells [.int .i64 0] 28 (some 0)], h.length + 1, h.length + 2, h.length, ((Ext.snoc _ _).trans (Ext.snoc _ _)).trans (Ext.snoc _ _), by simp, rfl, rfl, by simp [rdN], by simp, by simp, rfl, fun Q hQ => ?_⟩
    unfold s0
    have := hQ (put (put (put [.agg #[vA, vB, vC]] 1 (.pointer (some ⟨h.length, 0, none⟩))) 2 (.pointer (some ⟨h.length + 1, 0, none⟩))) 3 (.pointer (some ⟨h.length + 2, 0, none⟩))) (by simp) (by simp) (by simp)
    simpa [zeroRes6] using this
  have hp1 := hp.ext hx1
  have l24 := check24 E39_lp hp1
  have hone : [vA, vB, vC].all one1 = true := by
    obtain ⟨xA, xB, xC, e, ⟨_, _, _, _, _, rfl, _⟩, ⟨_, _, _, _, rfl, _⟩, ⟨_, _, _, _, rfl, _⟩⟩ := hp.out
    simp only [Value.agg.injEq, Array.mk.injEq, List.cons.injEq, and_true] at e
    obtain ⟨rfl, rfl, rfl⟩ := e
    rfl
  have hag : ∀ c, c < h.length → h1[c]? = h[c]? := fun c hc => by
    obtain ⟨x, hx⟩ := hx1
    rw [hx, List.getElem?_append_left hc]
  have mq : min h.length q = h.length := by omega
  have mr : min h.length r = h.length := by omega
  obtain ⟨H2, w2, z2, l2, a2⟩ := wr_res (vals := zeroRes6) hqz rfl rfl rfl
  have r2 : H2[r]? = some (.cells [.int .i64 0] 28 (some 0)) := by rw [a2 r (by omega)]; exact hrz
  have err : ∀ e : Int, ∃ H3, wrN H2 r 0 [.int .i64 e] = some H3 ∧ H3[r]? = some (.cells [.int .i64 e] 28 (some 0)) ∧ H3[q]? = some (.cells zeroRes6 27 (some 0)) ∧ Keep h H3 := fun e => by
    obtain ⟨H3, w3, z3, l3, a3⟩ := wr_cell (j := 0) (x := .int .i64 e) r2 rfl (by simp) rfl
    exact ⟨H3, w3, z3, by rw [a3 q (by omega)]; exact z2, by omega, fun c hc => by rw [a3 c (by omega), a2 c (by omega), hag c hc]⟩
  have hz : ∀ {H : List O}, ResAt H (.agg zeroRes6.toArray) 0 [] 0 [] 0 [] := ⟨_, _, _, rfl, Ints.nil, Ints.nil, Ints.nil, by constructor <;> omega, by constructor <;> omega, by constructor <;> omega⟩
  simp only [zeroRes6] at w2
  by_cases hv : Valid A B C
  · have l37 := size37 E39_lp hp1 hv
    by_cases hsz : sizeZ A B C ≤ 268435456
    · obtain ⟨o5, s5, P5, d5⟩ := sum39 hp1 hv hsz
      obtain ⟨kind, xd, yd, X, Y, R, vX, vY, vR, rfl, hR, hX, hY, hRR, hb, hk5, hf5⟩ := P5
      obtain ⟨H5, f5⟩ := s5
      simp only at hX hY hRR hk5 hf5
      have k5 := hk5.1
      have e0 : errS A B C = 0 := by simp [errS, hv, hsz]
      have hone6 : [Value.int .i64 kind, vX, .int .i64 xd, vY, .int .i64 yd, vR].all one1 = true := by
        obtain ⟨_, _, _, _, rfl, _⟩ := hX
        obtain ⟨_, _, _, _, rfl, _⟩ := hY
        obtain ⟨_, _, _, _, rfl, _⟩ := hRR
        rfl
      have q5 : H5[q]? = some (.cells zeroRes6 27 (some 0)) := by rw [hk5.2 q (by omega)]; exact hqz
      have r5 : H5[r]? = some (.cells [.int .i64 0] 28 (some 0)) := by rw [hk5.2 r (by omega)]; exact hrz
      obtain ⟨H6, w6, z6, l6, a6⟩ := wr_res (vals := [.int .i64 kind, vX, .int .i64 xd, vY, .int .i64 yd, vR]) q5 rfl rfl hone6
      have r6 : H6[r]? = some (.cells [.int .i64 0] 28 (some 0)) := by rw [a6 r (by omega)]; exact r5
      have w7 : wrN H6 r 0 [.int .i64 0] = some H6 := by
        simp only [wrN, r6]
        rw [if_pos (by simp [one1])]
        have : setL [Value.int .i64 0] 0 [.int .i64 0] = [.int .i64 0] := rfl
        rw [this, set_same r6]
      have K6 : Keep h H6 := ⟨by omega, fun c hc => by rw [a6 c (by omega), hk5.2 c (by omega), hag c hc]⟩
      have a6' : ∀ c, c < H5.length → c ≠ q → H6[c]? = H5[c]? := fun c _ hn => a6 c hn
      have hI : Ints H6 vX X ∧ Ints H6 vY Y ∧ Ints H6 vR R := by
        by_cases c2 : kind = 2
        · subst c2
          have he := right_emp hR
          exact ⟨ints_none hX he.1, ints_off hY q5 (emp_nonzero he) a6', ints_none hRR he.2.2.2.1⟩
        · obtain ⟨b, rfl, hbl, hnY, hnR⟩ := hb c2
          exact ⟨ints_at hX (q := q) (by omega) a6', ints_new hY hnY (by omega) a6', ints_new hRR hnR (by omega) a6'⟩
      obtain ⟨hX6, hY6, hR6⟩ := hI
      have hbd := hR.1
      have hkd : I64 kind := by
        rcases hR.2 with ⟨h, _⟩ | ⟨h, _⟩ | ⟨h, _⟩ <;> (subst h; constructor <;> omega)
      have hres : ResAt H6 (.agg #[.int .i64 kind, vX, .int .i64 xd, vY, .int .i64 yd, vR]) kind X xd Y yd R := ⟨vX, vY, vR, rfl, hX6, hY6, hR6, hkd, by have := hbd.2.2.2.1; constructor <;> omega, by have := hbd.2.2.2.2; constructor <;> omega⟩
      refine ⟨.ret (.tuple #[.agg #[.int .i64 kind, vX, .int .i64 xd, vY, .int .i64 yd, vR], .int .i64 0]), ⟨H6, h.length⟩, ?_, kind, xd, yd, X, Y, R, _, by rw [e0], hres, fun _ => hR, fun h => absurd e0 h, K6, rfl⟩
      refine hrun _ fun fr g1 g2 g3 => ⟨rfl, ?_⟩
      have hgt : ¬ (268435456 : Int) < (sizeZ A B C : Nat) := by omega
      unfold s2
      simp [g1, g2, g3, hpN, DC_of l24, hv]
      refine .inr ⟨rfl, ?_⟩
      unfold s3
      simp [g1, g2, g3, hpN, DC_of l37, eq_false hgt]
      refine .inr ⟨rfl, ?_⟩
      unfold tailR s7
      simp [g1, g2, g3, hpN, DC_of d5, joined_le (show h.length ≤ f5 by omega), w6, w7, mq, mr]
      unfold sY
      simp [eqNilV, show isNil 4 Value.nilIface = some true from rfl]
      refine rs_srs ?_ ?_ z6 rfl r6 <;> simp [g2, g3]
    · have e2 : errS A B C = 2 := by simp [errS, hv, hsz]
      obtain ⟨H3, w3, z3, q3, k3⟩ := err 2
      refine ⟨.ret (.tuple #[.agg zeroRes6.toArray, .int .i64 2]), ⟨H3, h.length⟩, ?_, 0, 0, 0, [], [], [], .agg zeroRes6.toArray, by rw [e2], hz, fun h => by omega, fun _ => ⟨rfl, rfl, rfl, rfl, rfl, rfl⟩, k3, rfl⟩
      refine hrun _ fun fr g1 g2 g3 => ⟨rfl, ?_⟩
      have hgt : (268435456 : Int) < (sizeZ A B C : Nat) := by omega
      unfold s2
      simp [g1, g2, g3, hpN, DC_of l24, hv]
      refine .inr ⟨rfl, ?_⟩
      unfold s3
      simp [g1, g2, g3, hpN, DC_of l37, eq_true hgt, w2, w3, mq, mr]
      exact .inl ⟨rfl, rfl, _, rs_srs (by simp [g2]) (by simp [g3]) q3 rfl z3, rfl⟩
  · have e2 : errS A B C = 120 := by simp [errS, hv]
    obtain ⟨H3, w3, z3, q3, k3⟩ := err 120
    refine ⟨.ret (.tuple #[.agg zeroRes6.toArray, .int .i64 120]), ⟨H3, h.length⟩, ?_, 0, 0, 0, [], [], [], .agg zeroRes6.toArray, by rw [e2], hz, fun h => by omega, fun _ => ⟨rfl, rfl, rfl, rfl, rfl, rfl⟩, k3, rfl⟩
    refine hrun _ fun fr g1 g2 g3 => ⟨rfl, ?_⟩
    unfold s2
    simp [g1, g2, g3, hpN, DC_of l24, hv, w2, w3, mq, mr]
    exact .inl ⟨rfl, rfl, _, rs_srs (by simp [g2]) (by simp [g3]) q3 rfl z3, rfl⟩
theorem solve16 (hp : LpAt h (.agg #[vA, vB, vC]) A B C) : ∃ o st', DR E3 16 [.agg #[vA, vB, vC]] ⟨h, h.length⟩ o st' ∧ Post16 h A B C o st' := by
  obtain ⟨o, st', hR, P⟩ := solve16R hp
  refine ⟨o, st', DR_sum (s := solveS E39) (by simp [E3]) (solveS_eq hR ?_), P⟩
  obtain ⟨kind, xd, yd, X, Y, R, w, e1, h2, h3, h4, hk, hf⟩ := P
  exact ⟨by simp only; omega, hk.1, fun id h1 h2 => hk.2 id h1⟩
end Go.Proofs.Ytdbkhecnkhjhpaa
/- Helpers of the laws: comparing, copying. -/
namespace Go.Proofs.Ytdbkhecnkhjhpaa
open Go Go.Ai
set_option linter.unusedSimpArgs false
set_option linter.unusedVariables false
attribute [local instance] Classical.propDecidable
variable {E : Env} (hE : LpE E) {h : List O}

theorem Keep.rdN {h0 h : List O} (k : Keep h0 h) {b i n : Nat} {vs : List Value} (hr : Ai.rdN h0 b i n = some vs) : Ai.rdN h b i n = some vs := by
  have hb : b < h0.length := by
    unfold Ai.rdN at hr
    cases hx : h0[b]? with
    | none => simp [hx] at hr
    | some o => exact (List.getElem?_eq_some_iff.1 hx).1
  simp only [Ai.rdN] at hr ⊢
  rw [k.2 b hb]; exact hr
theorem Keep.lp {h0 h : List O} (k : Keep h0 h) {v : Value} {A : List (List Int)} {B C : List Int} (hp : LpAt h0 v A B C) : LpAt h v A B C := by
  obtain ⟨vA, vB, vC, rfl, h1, h2, h3⟩ := hp.out
  exact ⟨vA, vB, vC, rfl, k.mat h1, k.ints h2, k.ints h3⟩
theorem Keep.res {h0 h : List O} (k : Keep h0 h) {v : Value} {X Y R : List Int} {kind xd yd : Int} (hp : ResAt h0 v kind X xd Y yd R) : ResAt h v kind X xd Y yd R := by
  obtain ⟨vX, vY, vR, rfl, h1, h2, h3, h4⟩ := hp.out
  exact ⟨vX, vY, vR, rfl, k.ints h1, k.ints h2, k.ints h3, h4⟩
include hE
theorem same27 {va vb : Value} {xs : List Int} (ha : Ints h va xs) (hb : Ints h vb xs) : DR E 27 [va, vb] ⟨h, h.length⟩ (.ret (.bool true)) ⟨h, h.length⟩ := by
  refine hE.fn (body := rb27) rfl (by decide) ?_
  unfold rb27
  obtain ⟨a, b, o, c, rfl, a2, a3, a4, a5⟩ := ha
  obtain ⟨a', b', o', c', rfl, b2, b3, b4, b5⟩ := hb
  simp
  refine DW_loop (fun k fr st => ∃ i : Nat, i + k = xs.length ∧ st = ⟨h, h.length⟩ ∧ get fr 0 = .slice a xs.length c ∧ get fr 1 = .slice a' xs.length c' ∧ get fr 5 = .int .i64 i) ?_ (k := xs.length) ?_
  · rintro k fr st ⟨i, hi, rfl, g0, g1, g5⟩
    by_cases hlt : i < xs.length
    · obtain rfl := a2 (by omega)
      obtain rfl := b2 (by omega)
      simp [g0, g1, g5, hlt, a3 i hlt, b3 i hlt]
      exact ⟨k - 1, by omega, i + 1, by omega, by rw [w64_id] <;> omega⟩
    · have : i = xs.length := by omega
      subst this
      simp [g0, g1, g5]
  · exact ⟨0, by simp⟩
theorem less21 {n d w : Int} (hd : 1 ≤ d) (hn : -4611686018427387904 ≤ n ∧ n ≤ 4611686018427387904) : DR E 21 [.int .i64 n, .int .i64 d, .int .i64 w] ⟨h, h.length⟩ (.ret (.bool (decide (n.tdiv d < w ∨ n.tdiv d = w ∧ n.tmod d ≤ 0)))) ⟨h, h.length⟩ := by
  refine hE.fn (body := rb21) rfl (by decide) ?_
  unfold rb21
  have h0 : d ≠ 0 := by omega
  have hb : (n.tdiv d).natAbs ≤ n.natAbs := by rw [Int.natAbs_tdiv]; exact Nat.div_le_self _ _
  have hw : IntKind.i64.wrap (n.tdiv d) = n.tdiv d := by rw [w64_id] <;> omega
  have bq := binV_quo (k := .i64) (a := n) h0
  have br := binV_rem (k := .i64) (a := n) h0
  rw [hw] at bq
  generalize n.tdiv d = q' at bq
  generalize n.tmod d = r' at br
  by_cases c1 : q' < w
  · have c0 : ¬ w ≤ q' := by omega
    simp [bq, br, c1]
  · by_cases c2 : q' = w
    · subst c2
      by_cases c3 : r' ≤ 0
      · simp [bq, br, eq_true c3]
      · simp [bq, br, eq_false c3]
    · simp [bq, br, c1, c2]
theorem none25 {H : List O} {v : Value} (hr : ResAt H v 0 [] 0 [] 0 []) : DR E 25 [v] ⟨H, H.length⟩ (.ret (.bool true)) ⟨H, H.length⟩ := by
  refine hE.fn (body := rb25) rfl (by decide) ?_
  unfold rb25
  rw [DW_seq, DW_ops]
  refine DL_boxed fun h' p hx hlen hp0 hb => ?_
  obtain ⟨vX, vY, vR, rfl, s0, s1, s2, s3, s4, s5, sN, hX, hY, hR, k1, k2, k3⟩ := boxRes hb rfl (hr.ext hx)
  obtain ⟨aX, bX, oX, cX, rfl, _⟩ := hX
  obtain ⟨aY, bY, oY, cY, rfl, _⟩ := hY
  obtain ⟨aR, bR, oR, cR, rfl, _⟩ := hR
  simp [s0, s1, s2, s3, s4, s5]
theorem total45 {v : Value} {xs : List Int} (hv : Ints h v xs) (hw : Within xs 1000000) (hl : xs.length ≤ 1000) : DR E 45 [v] ⟨h, h.length⟩ (.ret (.int .i64 (absS xs xs.length : Nat))) ⟨h, h.length⟩ := by
  refine hE.fn (body := rb45) rfl (by decide) ?_
  unfold rb45
  obtain ⟨a, b, o, c, rfl, h2, h3, h4, h5⟩ := hv
  simp
  refine DW_loop (fun k fr st => ∃ i : Nat, i + k = xs.length ∧ st = ⟨h, h.length⟩ ∧ get fr 0 = .slice a xs.length c ∧ get fr 3 = .int .i64 (absS xs i : Nat) ∧ get fr 4 = .int .i64 i) ?_ (k := xs.length) ?_
  · rintro k fr st ⟨i, hi, rfl, g0, g3, g4⟩
    by_cases hlt : i < xs.length
    · obtain rfl := h2 (by omega)
      have hb := absS_le (M := 1000000) hw (i + 1) (by omega)
      have hx := hw i hlt
      by_cases hneg : nth xs i < 0
      · simp [g0, g3, g4, hlt, h3 i hlt, eq_true hneg]
        simp only [absS, nsum] at hb
        refine ⟨k - 1, by omega, i + 1, by omega, ?_, by rw [w64_id] <;> omega⟩
        simp only [absS, nsum]
        rw [w64_id] <;> omega
      · simp [g0, g3, g4, hlt, h3 i hlt, eq_false hneg]
        simp only [absS, nsum] at hb
        refine ⟨k - 1, by omega, i + 1, by omega, ?_, by rw [w64_id] <;> omega⟩
        simp only [absS, nsum]
        rw [w64_id] <;> omega
    · have : i = xs.length := by omega
      subst this
      simp [g0, g3, g4]
  · exact ⟨0, by simp [absS, nsum]⟩
end Go.Proofs.Ytdbkhecnkhjhpaa
/- The law of solutions. -/
namespace Go.Proofs.Ytdbkhecnkhjhpaa
open Go Go.Ai
set_option linter.unusedSimpArgs false
set_option linter.unusedVariables false
attribute [local instance] Classical.propDecidable
variable {E : Env} (hE : LpE E) {h : List O}

theorem less_ok {n d w : Int} (hd : 1 ≤ d) (hn : n ≤ w * d) : n.tdiv d < w ∨ n.tdiv d = w ∧ n.tmod d ≤ 0 := by
  have e := Int.mul_tdiv_add_tmod n d
  have hr : -d < n.tmod d := by
    have h1 := Int.natAbs_tmod n d
    have h2 : n.natAbs % d.natAbs < d.natAbs := Nat.mod_lt _ (by omega)
    omega
  rcases Int.lt_trichotomy (n.tdiv d) w with c | c | c
  · exact .inl c
  · refine .inr ⟨c, ?_⟩
    rw [c, Int.mul_comm] at e
    omega
  · exfalso
    have h1 : d * (w + 1) ≤ d * n.tdiv d := Int.mul_le_mul_of_nonneg_left (by omega) (by omega)
    rw [Int.mul_add, Int.mul_one, Int.mul_comm d w] at h1
    omega
theorem val_scale {C X : List Int} {xd : Int} (hx : 1 ≤ xd) : ∃ g : Int, 1 ≤ g ∧ valN C X xd * g = dotZ C X C.length ∧ valD C X xd * g = xd ∧ 1 ≤ valD C X xd := by
  have hg : 0 < Nat.gcd (dotZ C X C.length).natAbs xd.natAbs := Nat.gcd_pos_of_pos_right _ (by omega)
  have h1 : ((Nat.gcd (dotZ C X C.length).natAbs xd.natAbs : Nat) : Int) ∣ dotZ C X C.length := Int.ofNat_dvd_left.2 (Nat.gcd_dvd_left _ _)
  have h2 : ((Nat.gcd (dotZ C X C.length).natAbs xd.natAbs : Nat) : Int) ∣ xd := Int.ofNat_dvd_left.2 (Nat.gcd_dvd_right _ _)
  have e1 := Int.tdiv_mul_cancel h1
  have e2 := Int.tdiv_mul_cancel h2
  refine ⟨_, by omega, e1, e2, ?_⟩
  unfold valD
  generalize xd.tdiv _ = d at e2 ⊢
  refine Classical.byContradiction fun hc => ?_
  have : d * ((Nat.gcd (dotZ C X C.length).natAbs xd.natAbs : Nat) : Int) ≤ 0 := Int.mul_nonpos_of_nonpos_of_nonneg (by omega) (by omega)
  omega
theorem sol_value {A : List (List Int)} {B C X Y R Z : List Int} {xd yd : Int} (ho : Opt A B C X xd Y yd R) (hz : IsSol A B C Z 1) (hB : B.length = A.length) : valN C X xd ≤ dotZ C Z C.length * valD C X xd := by
  obtain ⟨a1, a2, _, _, a3, a4⟩ := ho
  have w1 := weak hz hB a3
  have hx := a1.1
  obtain ⟨g, hg, e1, e2, hd⟩ := val_scale (C := C) (X := X) hx
  have h1 : dotZ C X C.length ≤ dotZ C Z C.length * xd := by
    have h2 : yd * dotZ C X C.length ≤ yd * (dotZ C Z C.length * xd) := by
      have h3 : 1 * dotZ B Y B.length * xd ≤ yd * dotZ C Z C.length * xd := Int.mul_le_mul_of_nonneg_right w1 (by omega)
      rw [Int.one_mul, ← a4, Int.mul_comm, Int.mul_assoc] at h3
      exact h3
    exact Int.le_of_mul_le_mul_left h2 (by omega)
  rw [← e1] at h1
  have h2 : valN C X xd * g ≤ dotZ C Z C.length * valD C X xd * g := by
    rw [Int.mul_assoc, e2]; exact h1
  exact Int.le_of_mul_le_mul_right h2 (by omega)
include hE
theorem isSol20 {v vX : Value} {A : List (List Int)} {B C X : List Int} (hp : LpAt h v A B C) (hX : Ints h vX X) (hv : Valid A B C) :
    DR E 20 [v, vX] ⟨h, h.length⟩ (.ret (.bool (decide (Within X 1073741824 ∧ IsSol A B C X 1)))) ⟨h, h.length⟩ := by
  refine hE.fn (body := rb20) rfl (by decide) ?_
  unfold rb20
  rw [DW_seq, DW_ops]
  refine DL_boxed fun h' p hx hlen hp0 hb => ?_
  simp at hb
  replace hp := hp.ext hx
  obtain ⟨vA, vB, vC, rfl, r0, r1, r2, rN, hA, hB, hC⟩ := boxLp (h := h) hb rfl hp
  have l33 := within33 hE (hX.ext hx) (m := 1073741824) (by omega)
  by_cases c1 : Within X 1073741824
  · have l40 := isSolution40 hE hp (hX.ext hx) hv c1 (xd := 1) (by omega)
    by_cases c2 : IsSol A B C X 1 <;> simp [DC_of l33, c1, rN, DC_of l40, c2]
  · simp [DC_of l33, c1]
end Go.Proofs.Ytdbkhecnkhjhpaa
/- The law of solutions: its code. -/
namespace Go.Proofs.Ytdbkhecnkhjhpaa
open Go Go.Ai
set_option linter.unusedSimpArgs false
set_option linter.unusedVariables false
attribute [local instance] Classical.propDecidable

/-- A result that has been put into a block of its own. -/
theorem put_res {H' : List O} {w : Value} {X Y R : List Int} {kind xd yd : Int} (hr : ResAt H' w kind X xd Y yd R) : ∃ M cs, w = .agg cs.toArray ∧ cs.length = 6 ∧ wrN (H' ++ [.cells zeroRes6 27 (some 0)]) H'.length 0 cs = some M ∧ Ext H' M ∧ M.length = H'.length + 1 ∧
    rdN M H'.length 0 6 = some cs ∧ rd M H'.length 0 = some (.int .i64 kind) ∧ ResAt M w kind X xd Y yd R := by
  obtain ⟨vX, vY, vR, rfl, hX, hY, hR, hk⟩ := hr.out
  have hone6 : [Value.int .i64 kind, vX, .int .i64 xd, vY, .int .i64 yd, vR].all one1 = true := by
    obtain ⟨_, _, _, _, rfl, _⟩ := hX
    obtain ⟨_, _, _, _, rfl, _⟩ := hY
    obtain ⟨_, _, _, _, rfl, _⟩ := hR
    rfl
  obtain ⟨M, w6, z6, l6, a6⟩ := wr_res (H := H' ++ [.cells zeroRes6 27 (some 0)]) (q := H'.length) (vals := [.int .i64 kind, vX, .int .i64 xd, vY, .int .i64 yd, vR]) get_last rfl rfl hone6
  have eM : Ext H' M := ext_of_agree (by rw [l6]; simp) fun c hc => by rw [a6 c (by omega), List.getElem?_append_left hc]
  exact ⟨M, _, rfl, rfl, w6, eM, by rw [l6]; simp, rdN6 z6 rfl, by simp [rd, z6], hr.ext eM⟩
/-- Solve, called in memory that has grown. -/
theorem solve_at {h1 : List O} {vA vB vC : Value} {A : List (List Int)} {B C : List Int} (hp : LpAt h1 (.agg #[vA, vB, vC]) A B C) : ∃ kind xd yd : Int, ∃ X Y R : List Int, ∃ w H', DR E3 16 [.agg #[vA, vB, vC]] ⟨h1, h1.length⟩ (.ret (.tuple #[w, .int .i64 (errS A B C)])) ⟨H', h1.length⟩ ∧ ResAt H' w kind X xd Y yd R ∧ (errS A B C = 0 → Right A B C kind X xd Y yd R) ∧ (errS A B C ≠ 0 → kind = 0 ∧ X = [] ∧ xd = 0 ∧ Y = [] ∧ yd = 0 ∧ R = []) ∧ Keep h1 H' := by
  obtain ⟨o, st', hd, kind, xd, yd, X, Y, R, w, rfl, h2, h3, h4, h5, h6⟩ := solve16 hp
  obtain ⟨H', f⟩ := st'
  simp only at h2 h5 h6
  subst h6
  exact ⟨kind, xd, yd, X, Y, R, w, H', hd, h2, h3, h4, h5⟩
theorem errS_valid {A : List (List Int)} {B C : List Int} (hv : Valid A B C) : errS A B C = 0 ∨ errS A B C = 2 := by
  unfold errS; rw [if_pos hv]; split <;> simp
theorem law6 {h : List O} {v vZ : Value} {A : List (List Int)} {B C Z : List Int} (hp : LpAt h v A B C) (hZ : Ints h vZ Z) : DR E3 6 [v, vZ] ⟨h, h.length⟩ (.ret (.bool true)) ⟨h, h.length⟩ := by
  refine E3_lp.fn (body := rb6) rfl (by decide) ?_
  unfold rb6
  rw [DW_seq, DW_ops]
  refine DL_boxed fun h1 p hx hlen hp0 hb => ?_
  simp at hb
  replace hp := hp.ext hx
  replace hZ := hZ.ext hx
  obtain ⟨vA, vB, vC, rfl, r0, r1, r2, rN, hA, hB, hC⟩ := boxLp (h := h) hb rfl hp
  have l15 := check15 E3_lp hp
  by_cases hv : Valid A B C
  · have l20 := isSol20 E3_lp hp hZ hv
    by_cases hs : Within Z 1073741824 ∧ IsSol A B C Z 1
    · obtain ⟨kind, xd, yd, X, Y, R, w, H', d16, hr, hok, hno, hk⟩ := solve_at hp
      obtain ⟨M, cs, rfl, hcl, wM, eM, lM, rM, rK, hrM⟩ := put_res hr
      have kM := hk.ext eM
      have hk1 := hk.1
      simp only [zeroRes6] at wM
      have mf : min h.length H'.length = h.length := by omega
      rcases errS_valid hv with e0 | e0
      · have hR := hok e0
        have hpM := kM.lp hp
        have hZM := kM.ints hZ
        have rNM := kM.rdN rN
        have r2M := kM.rd r2
        have l10 := value10 E3_lp hpM hrM
        obtain ⟨v1, v2, v3, v4, v5, v6, v7⟩ := id hv
        obtain ⟨aC, bC, oC, cC, rfl, hC2, hC3, hC4, hC5⟩ := kM.ints hC
        obtain ⟨aZ, bZ, oZ, cZ, rfl, hZ2, hZ3, hZ4, hZ5⟩ := hZM
        have hZl : Z.length = C.length := hs.2.2.1
        rw [e0] at d16
        simp [DC_of l15, hv, rN, DC_of l20, hs, DC_of d16, joined_le (show h.length ≤ h1.length by omega), wM, mf, eq_true hcl]
        refine DW_loop (fun k fr st => ∃ i : Nat, i + k = C.length ∧ st = ⟨M, h.length⟩ ∧ get fr 1 = .slice aZ Z.length cZ ∧ get fr 2 = .pointer (some ⟨p, 0, none⟩) ∧ get fr 5 = .pointer (some ⟨H'.length, 0, none⟩) ∧ get fr 7 = .int .i64 (IntKind.i64.wrap (dotZ C Z i)) ∧ get fr 8 = .int .i64 i) ?_ (k := C.length) ?_
        · rintro k fr st ⟨i, hi, rfl, g1, g2, g5, g7, g8⟩
          by_cases hlt : i < C.length
          · obtain rfl := hC2 (by omega)
            obtain rfl := hZ2 (by omega)
            have d1 : i < Z.length := by omega
            simp [g1, g2, g5, g7, g8, hlt, r2M, hC3 i hlt, hZ3 i d1, d1]
            refine ⟨k - 1, by omega, i + 1, by omega, ?_, ?_⟩
            · simp [dotZ, sumN]
            · rw [w64_id] <;> omega
          · have : i = C.length := by omega
            subst this
            have d1 : ¬ (C.length : Int) < Z.length := by omega
            have hw := dot_small v6 hs.1 (n := C.length) (by omega)
            have ew : IntKind.i64.wrap (dotZ C Z C.length) = dotZ C Z C.length := by rw [w64_id] <;> omega
            rcases id hR.2 with ⟨rfl, ho⟩ | ⟨rfl, he⟩ | ⟨rfl, hu⟩
            · have eV : errV A B C 1 X xd Y yd R = 0 := by simp [errV, hv, hR]
              have hx1 := ho.1.1
              obtain ⟨g, hg, ge1, ge2, gd⟩ := val_scale (C := C) (X := X) hx1
              have hwX := dot_small v6 hR.1.1 (n := C.length) (by omega)
              have hnb : (valN C X xd).natAbs ≤ (dotZ C X C.length).natAbs := by
                unfold valN; rw [Int.natAbs_tdiv]; exact Nat.div_le_self _ _
              have hl := less_ok gd (sol_value ho hs.2 v2)
              have l21 := less21 (h := M) E3_lp (w := dotZ C Z C.length) gd (n := valN C X xd) (by omega)
              have gd' : (1 : Int) ≤ valD C X xd := gd
              rw [decide_eq_true hl] at l21
              simp [g1, g2, g5, g7, g8, eq_false d1, rNM, rM, DC_of l10, DC_of (sane12' _), rK, ew, eV, eq_true gd', DC_of l21]
            · exact (emp_no hs.2 he v2).elim
            · simp [g1, g2, g5, g7, g8, eq_false d1, rNM, rM, DC_of l10, DC_of (sane12' _), rK, ew]
        · exact ⟨0, by simp [dotZ, sumN, w64_id]⟩
      · rw [e0] at d16
        simp [DC_of l15, hv, rN, DC_of l20, hs, DC_of d16, joined_le (show h.length ≤ h1.length by omega), wM, mf, DC_of (sane12' _), eq_true hcl]
    · simp [DC_of l15, hv, rN, DC_of l20, hs, DC_of (sane12' _)]
  · simp [DC_of l15, hv, rN, DC_of (sane12' _)]
end Go.Proofs.Ytdbkhecnkhjhpaa
