/- Texts that were built one by one: Ra14, Ra15, Ra16, Ra17, Ra18, Ra19, Ra20, Ra21, Ra22, Ra23, Ra24, Ra25, Ra26. -/
import Derived.Test.YtjlkndkedknocaaMj
namespace Go.Proofs.Ytjlkndkedknocaa
open Go Go.Ai
set_option linter.unusedSimpArgs false
set_option linter.unusedVariables false
attribute [local instance] Classical.propDecidable
theorem same_arc {G : Dg} (hG : GoodG G) {x y : Nat × Nat} (hx : InV G x) (hy : InV G y) (h : G.X x.1 x.2 = G.X y.1 y.2) : x = y ∨ x = oth G y := by
  obtain ⟨x1, x2, x3⟩ := hx
  obtain ⟨y1, y2, y3⟩ := hy
  have cx := hG.cover x.1 x.2 x1 x2
  have cy := hG.cover y.1 y.2 y1 y2
  obtain ⟨_, _, _, _, _, _, hne⟩ := hG.T _ y3
  rw [h] at cx
  unfold oth
  rcases cx with ⟨a1, a2⟩ | ⟨a1, a2⟩
  · rcases cy with ⟨b1, b2⟩ | ⟨b1, b2⟩
    · exact .inl (Prod.ext (a1.trans b1.symm) (a2.trans b2.symm))
    · right
      rw [if_neg (fun e => hne ⟨e.1.trans b1, e.2.trans b2⟩)]
      exact Prod.ext a1 a2
  · rcases cy with ⟨b1, b2⟩ | ⟨b1, b2⟩
    · right
      rw [if_pos ⟨b1.symm, b2.symm⟩]
      exact Prod.ext a1 a2
    · exact .inl (Prod.ext (a1.trans b1.symm) (a2.trans b2.symm))
/-- The search under way: in the queue's place k, arc f. -/
structure MQ (G : Dg) (k f : Nat) (bs : List Bool) (qs : List Nat) : Prop where
  q : CQ G.n (nbC G) 0 k f (List.replicate G.n false) bs qs
  cnt : qs.length + unm bs = G.n
  rt : bnth bs 0 = true
/-- One place is looked at. -/
theorem MQ.other {G : Dg} (hG : GoodG G) {k j c p : Nat} {bs : List Bool} {qs : List Nat} (h : MQ G k (if 4 * (oth G (qn qs k, j)).1 + (oth G (qn qs k, j)).2 < 4 * c + p then j + 1 else j) bs qs) (hp : p < 4) (hj : j < 4) (hu : qn qs k < G.n) (hc : c < G.n)
    (hne : G.X c p ≠ G.X (qn qs k) j ∨ bnth bs c = true) : MQ G k (if 4 * (oth G (qn qs k, j)).1 + (oth G (qn qs k, j)).2 < 4 * c + (p + 1) then j + 1 else j) bs qs := by
  have hinV : InV G (qn qs k, j) := hG.inV hu hj
  have hos := oth_spec hG hinV
  obtain ⟨w, hw⟩ : ∃ w, w = oth G (qn qs k, j) := ⟨_, rfl⟩
  rw [← hw] at h hos ⊢
  have w2 := hos.1.2.1
  by_cases e : 4 * w.1 + w.2 = 4 * c + p
  · have e1 : w.1 = c := by omega
    have e2 : w.2 = p := by omega
    rw [if_neg (by omega)] at h
    rw [if_pos (by omega)]
    refine ⟨h.q.pass fun w' hw' => ?_, h.cnt, h.rt⟩
    obtain rfl := Option.some.inj hw'
    rw [← hw, e1]
    rcases hne with hne | hne
    · exact absurd (by have := hos.2.2; rw [e1, e2] at this; exact this) hne
    · exact hne
  · have : (4 * w.1 + w.2 < 4 * c + (p + 1)) ↔ (4 * w.1 + w.2 < 4 * c + p) := by omega
    simp only [this]
    exact h
theorem MQ.hit {G : Dg} (hG : GoodG G) {k j c p : Nat} {bs : List Bool} {qs : List Nat} (h : MQ G k (if 4 * (oth G (qn qs k, j)).1 + (oth G (qn qs k, j)).2 < 4 * c + p then j + 1 else j) bs qs) (hp : p < 4) (hj : j < 4) (hk : k < qs.length) (hc : c < G.n)
    (hX : G.X c p = G.X (qn qs k) j) (hb : bnth bs c = false) : MQ G k (if 4 * (oth G (qn (qs ++ [c]) k, j)).1 + (oth G (qn (qs ++ [c]) k, j)).2 < 4 * c + (p + 1) then j + 1 else j) (bs.set c true) (qs ++ [c]) := by
  have huq := h.q.inq _ (qn_mem hk)
  have hinV : InV G (qn qs k, j) := hG.inV huq.1 hj
  have hcp : InV G (c, p) := hG.inV hc hp
  have hq : qn (qs ++ [c]) k = qn qs k := by rw [qn_snoc (by omega), if_pos hk]
  rw [hq]
  rcases same_arc hG hcp hinV hX with e | e
  · have : c = qn qs k := congrArg Prod.fst e
    rw [this, huq.2.1] at hb; cases hb
  · rw [← e] at h ⊢
    rw [if_neg (by simp only; omega)] at h
    rw [if_pos (by simp only; omega)]
    refine ⟨h.q.add hk hj (by unfold nbC; rw [← e]) hc, ?_, ?_⟩
    · have := unm_set (i := c) (bs := bs) (by rw [h.q.len]; exact hc) hb
      have := h.cnt
      rw [List.length_append]; show qs.length + 1 + _ = _; omega
    · rw [bnth_set (by rw [h.q.len]; exact hc)]
      split
      · rfl
      · exact h.rt
theorem MQ.start {G : Dg} (hn : 0 < G.n) : MQ G 0 0 ((List.replicate G.n false).set 0 true) [0] := by
  refine ⟨CQ.start CB.start hn, ?_, ?_⟩
  · have h1 := unm_set (i := 0) (bs := List.replicate G.n false) (by rw [List.length_replicate]; exact hn) (bnth_rep hn)
    have h2 : unm (List.replicate G.n false) = G.n := by unfold unm; rw [List.countP_replicate]; rfl
    show 1 + unm _ = G.n
    omega
  · rw [bnth_set (by rw [List.length_replicate]; exact hn), if_pos rfl]
theorem MQ.fin {G : Dg} (hG : GoodG G) {k : Nat} {bs : List Bool} {qs : List Nat} (h : MQ G k 0 bs qs) (hk : k = qs.length) : qs.length = G.n ↔ ∀ c, c < G.n → Conn G 0 c := by
  by_cases hn : 0 < G.n
  · have hall := CQ.all h.q hk hn (fun i => by
      by_cases hi : i < G.n
      · exact bnth_rep hi
      · simp [bnth, hi]) h.rt (fun u f w hu hf hw => by
      obtain rfl := Option.some.inj hw
      exact (nb hG hu hf).1)
    have hz := unm_zero (n := G.n) h.q.len
    have hc := h.cnt
    constructor
    · intro hq c hc'
      have : unm bs = 0 := by omega
      exact VC_conn.1 ((hall c hc').1 (hz.1 this c hc'))
    · intro hcn
      have : unm bs = 0 := hz.2 fun i hi => (hall i hi).2 (VC_conn.2 (hcn i hi))
      omega
  · have hc := h.cnt
    constructor
    · intro _ c hc'; omega
    · intro _; omega
end Go.Proofs.Ytjlkndkedknocaa
namespace Go.Proofs.Ytjlkndkedknocaa
open Go Go.Ai
set_option linter.unusedSimpArgs false
set_option linter.unusedVariables false
attribute [local instance] Classical.propDecidable
theorem natsC_append (l : List Nat) (a : Nat) : natsC (l ++ [a]) = natsC l ++ [.int .i64 a] := by simp [natsC]
theorem natsC_qn {qs : List Nat} {t : Nat} (h : t < qs.length) : (natsC qs)[t]? = some (.int .i64 (qn qs t)) := natsC_get (by simp [qn, h])
variable {E : Env} (hE : OE E)
include hE
theorem mixedR_ {h0 : List O} {a : Option Addr} {n c : Nat} {x : Nat → Nat → Int} {s : Nat → Int} {L : Int} (hx : CrossP h0 a n x s) :
    DR E 20 [dV a n c L] ⟨h0, h0.length⟩ (.ret (.bool (mixD n x s L))) ⟨h0, h0.length⟩ := by
  refine hE.fn (body := rb20) rfl ?_
  unfold rb20
  obtain ⟨hB, hhB⟩ : ∃ H, H = h0 ++ [O.cells [.slice a n c, .int .i64 L] 24 (some 0)] := ⟨_, rfl⟩
  have lB : hB.length = h0.length + 1 := by rw [hhB]; simp
  have sB : Sub h0 hB := by rw [hhB]; exact (Sub.refl _).app _
  have bB : hB[h0.length]? = some (O.cells [.slice a n c, .int .i64 L] 24 (some 0)) := by rw [hhB, app_at0]; rfl
  have hcl : ∀ l, CrossP (h0 ++ l) a n x s := fun l => hx.ext (Ext.snoc h0 l)
  have h1 := fun h k => checkR_ hE (h0 := h) (a := a) (x := x) (c := c) (L := L) (n := n) (s := s) k
  by_cases hk : kindD n x s L = 0
  · by_cases hn : n = 0
    · have hm : mixD n x s L = false := by
        unfold mixD
        exact decide_eq_false fun h => h.2.1 hn
      simp only [dV, hk] at h1
      subst hn
      simp [dV, rdN_at0, rd_at0, DC_when h1, hcl, joined_fl, hm]
    by_cases hL : L = 0
    · subst hL
      obtain ⟨hS, hP⟩ := kind_zero hk
      have hG := good_of hS
      obtain ⟨G, hGe⟩ : ∃ G, G = dgOf n x s 0 := ⟨_, rfl⟩
      have hGn : G.n = n := by rw [hGe]; rfl
      have hGL : G.L = 0 := by rw [hGe]; rfl
      have hxe : ∀ i q, i < n → q < 4 → x i q = G.X i q := fun i q hi hq => by rw [hGe]; exact sound_x hS hi hq
      have hmix : mixD n x s 0 = decide (MixG G) := by
        unfold mixD
        rw [← hGe]
        simp [hk]
      rw [← hGe] at hG hP
      have hsz := hG.size
      rw [hGn] at hsz
      have hbad : ∀ h' f, h0.length ≤ f → ¬ MixG G → pairQ (back ⟨h0, h0.length⟩ (.ret (.bool false)) ⟨h', f⟩) fun o2 st2 => o2 = .ret (.bool (decide (MixG G))) ∧ st2 = ⟨h0, h0.length⟩ := fun h' f hf hm => by
        unfold pairQ
        rw [back_scalar (by simp [Out.scalar, scalar, flat1, flat]) hf]
        simp [hm]
      rw [hmix]
      simp only [dV, hk] at h1
      have hnp : 0 < n := by omega
      have e1 : (n : Int) ≤ 140737488355328 := by omega
      have e2 : (n : Int) < 4611686018427387904 := by omega
      have hrep : rep n [Value.bool false] = boolsC (List.replicate n false) := by simp [rep, boolsC]
      have hn1 : 1 ≤ n := by omega
      obtain ⟨xb, xo, hxa, hxr⟩ := id hx
      obtain rfl := hxa hnp
      simp [dV, rdN_at0, rd_at0, DC_when h1, hcl, joined_fl, hn, e1, e2, hrep, hnp, wrN_at, set_at, boolsC_set, List.append_assoc, hn1]
      obtain ⟨m, hm⟩ : ∃ m, m = h0.length + 1 := ⟨_, rfl⟩
      rw [← hm] at lB ⊢
      refine DW_loop (fun kk fr st => ∃ (k : Nat) (h : List O) (bs : List Bool) (qs : List Nat) (qb : Nat), k + kk = n ∧ st = ⟨h, h0.length⟩ ∧ Sub hB h ∧ AtB h m (.cells (boolsC bs) 4 (some 0)) ∧ OwnS h (m + 1) (.slice (some ⟨qb, 0, none⟩) qs.length qs.length) qs.length (natsC qs) 3 1 ∧ MQ G k 0 bs qs ∧ k ≤ qs.length ∧ get fr 1 = .pointer (some ⟨h0.length, 0, none⟩) ∧ get fr 3 = .slice (some ⟨m, 0, none⟩) n n ∧ get fr 4 = .slice (some ⟨qb, 0, none⟩) qs.length qs.length ∧ get fr 5 = .int .i64 k) ?_ (k := n) ?_
      · rintro kk fr st ⟨k, h, bs, qs, qb, hkk, rfl, hsub, hbs, hown, hMQ, hkq, g1, g3, g4, g5⟩
        by_cases hkl : k < qs.length
        · simp [g1, g3, g4, g5, hkl]
          refine DW_loop (fun kk' fr st => ∃ (j : Nat) (h : List O) (bs : List Bool) (qs : List Nat) (qb : Nat), j + kk' = 4 ∧ st = ⟨h, h0.length⟩ ∧ Sub hB h ∧ AtB h m (.cells (boolsC bs) 4 (some 0)) ∧ OwnS h (m + 1) (.slice (some ⟨qb, 0, none⟩) qs.length qs.length) qs.length (natsC qs) 3 1 ∧ MQ G k j bs qs ∧ k < qs.length ∧ get fr 1 = .pointer (some ⟨h0.length, 0, none⟩) ∧ get fr 3 = .slice (some ⟨m, 0, none⟩) n n ∧ get fr 4 = .slice (some ⟨qb, 0, none⟩) qs.length qs.length ∧ get fr 5 = .int .i64 k ∧ get fr 6 = .int .i64 j) ?_ (k := 4) ?_
          · clear g1 g3 g4 g5 hsub hbs hown hMQ hkq hkl
            clear h bs qs qb
            rintro kk' fr st ⟨j, h, bs, qs, qb, hjk, rfl, hsub, hbs, hown, hMQ, hkl, g1, g3, g4, g5, g6⟩
            have hwk : IntKind.i64.wrap ((k : Int) + 1) = (k : Int) + 1 := by rw [w64_id] <;> omega
            have hwj : IntKind.i64.wrap ((j : Int) + 1) = (j : Int) + 1 := by rw [w64_id] <;> omega
            by_cases hj : j < 4
            · have hj' : (j : Int) < 4 := by omega
              have hb2 := hsub _ _ bB
              obtain ⟨qlo, qsz, qat⟩ := hown.at_
              have huN := (hMQ.q.inq _ (qn_mem hkl)).1
              obtain ⟨u, hu⟩ : ∃ u, u = qn qs k := ⟨_, rfl⟩
              have hqn := natsC_qn hkl
              rw [← hu] at huN hqn
              have huN' : u < n := by omega
              obtain ⟨rq, rs⟩ := CrossP.reads (fun i hi => (sB.trans hsub).rdN (hxr i hi)) huN'
              have hrj := rq j hj
              rw [hxe u j huN' hj] at hrj
              simp only [rd_def] at hrj
              simp [g1, g3, g4, g5, g6, hj', hkl, rd_def, hb2, qat, hqn, huN', hrj]
              have hst : MQ G k (if 4 * (oth G (qn qs k, j)).1 + (oth G (qn qs k, j)).2 < 4 * 0 + 0 then j + 1 else j) bs qs := by rw [if_neg (by omega)]; exact hMQ
              refine DW_loop (fun kk2 fr st => ∃ (i : Nat) (h : List O) (bs : List Bool) (qs : List Nat) (qb : Nat), i + kk2 = n ∧ st = ⟨h, h0.length⟩ ∧ Sub hB h ∧ AtB h m (.cells (boolsC bs) 4 (some 0)) ∧ OwnS h (m + 1) (.slice (some ⟨qb, 0, none⟩) qs.length qs.length) qs.length (natsC qs) 3 1 ∧ (qn qs k = u ∧ MQ G k (if 4 * (oth G (qn qs k, j)).1 + (oth G (qn qs k, j)).2 < 4 * i + 0 then j + 1 else j) bs qs) ∧ k < qs.length ∧ get fr 1 = .pointer (some ⟨h0.length, 0, none⟩) ∧ get fr 3 = .slice (some ⟨m, 0, none⟩) n n ∧ get fr 4 = .slice (some ⟨qb, 0, none⟩) qs.length qs.length ∧ get fr 5 = .int .i64 k ∧ get fr 6 = .int .i64 j ∧ get fr 7 = .int .i64 (G.X u j) ∧ get fr 8 = .int .i64 i) ?_ (k := n) ?_
              · clear g1 g3 g4 g5 g6 hsub hbs hown hMQ hkl hst hb2 qat qlo rq rs hqn hrj hu
                clear h bs qs qb
                rintro kk2 fr st ⟨i, h, bs, qs, qb, hik, rfl, hsub, hbs, hown, ⟨hu, hMQ⟩, hkl, g1, g3, g4, g5, g6, g7, g8⟩
                have hb2 := hsub _ _ bB
                by_cases hi : i < n
                · simp [g1, g3, g4, g5, g6, g7, g8, rd_def, hb2, hi]
                  refine DW_loop (fun kk3 fr st => ∃ (p : Nat) (h : List O) (bs : List Bool) (qs : List Nat) (qb : Nat), p + kk3 = 4 ∧ st = ⟨h, h0.length⟩ ∧ Sub hB h ∧ AtB h m (.cells (boolsC bs) 4 (some 0)) ∧ OwnS h (m + 1) (.slice (some ⟨qb, 0, none⟩) qs.length qs.length) qs.length (natsC qs) 3 1 ∧ (qn qs k = u ∧ MQ G k (if 4 * (oth G (qn qs k, j)).1 + (oth G (qn qs k, j)).2 < 4 * i + p then j + 1 else j) bs qs) ∧ k < qs.length ∧ get fr 1 = .pointer (some ⟨h0.length, 0, none⟩) ∧ get fr 3 = .slice (some ⟨m, 0, none⟩) n n ∧ get fr 4 = .slice (some ⟨qb, 0, none⟩) qs.length qs.length ∧ get fr 5 = .int .i64 k ∧ get fr 6 = .int .i64 j ∧ get fr 7 = .int .i64 (G.X u j) ∧ get fr 8 = .int .i64 i ∧ get fr 9 = .int .i64 p) ?_ (k := 4) ?_
                  · clear g1 g3 g4 g5 g6 g7 g8 hsub hbs hown hMQ hkl hb2 hu
                    clear h bs qs qb
                    rintro kk3 fr st ⟨p, h, bs, qs, qb, hpk, rfl, hsub, hbs, hown, ⟨hu, hMQ⟩, hkl, g1, g3, g4, g5, g6, g7, g8, g9⟩
                    have hwi : IntKind.i64.wrap ((i : Int) + 1) = (i : Int) + 1 := by rw [w64_id] <;> omega
                    have hwp : IntKind.i64.wrap ((p : Int) + 1) = (p : Int) + 1 := by rw [w64_id] <;> omega
                    have hb2 := hsub _ _ bB
                    have hbs' := hbs
                    unfold AtB at hbs'
                    have hlen := hMQ.q.len
                    have hib : i < bs.length := by omega
                    by_cases hp : p < 4
                    · have hp' : (p : Int) < 4 := by omega
                      obtain ⟨rq, rs⟩ := CrossP.reads (fun i hi => (sB.trans hsub).rdN (hxr i hi)) hi
                      have hrp := rq p hp
                      rw [hxe i p hi hp] at hrp
                      simp only [rd_def] at hrp
                      by_cases hX : G.X i p = G.X u j
                      · cases hbi : bnth bs i with
                        | true =>
                          simp [g1, g3, g4, g5, g6, g7, g8, g9, hp', rd_def, hb2, hi, hrp, hX, hbs', boolsC_get hib, hbi, hwp]
                          refine ⟨kk3 - 1, by omega, p + 1, by omega, hsub, bs, hbs, qs, qb, hown, ⟨hu, ?_⟩, hkl, ⟨rfl, rfl⟩, by omega⟩
                          exact hMQ.other hG hp hj (by omega) (by omega) (.inr hbi)
                        | false =>
                          have hsl := hsub.len
                          have hml := (List.getElem?_eq_some_iff.1 hbs').1
                          have hqn : qs.length + 1 ≤ n := by
                            have h1 := unm_set hib hbi
                            have h2 := hMQ.cnt
                            omega
                          have hil : i + 1 ≤ bs.length := by omega
                          have hminm : min h0.length m = h0.length := by omega
                          obtain ⟨h2, hh2⟩ : ∃ H, H = h.set m (O.cells (boolsC (bs.set i true)) 4 (some 0)) := ⟨_, rfl⟩
                          have l2 : h2.length = h.length := by rw [hh2]; simp
                          have at2 : h2[m]? = some (O.cells (boolsC (bs.set i true)) 4 (some 0)) := by rw [hh2]; exact set_self hbs'
                          obtain ⟨h3, hh3⟩ : ∃ H, H = h2 ++ [O.cells [.int .i64 i] 3 (some 0)] := ⟨_, rfl⟩
                          have S3 : ∀ (b : Nat) (o : O), h[b]? = some o → b ≠ m → h3[b]? = some o := fun b o hb hne => by
                            rw [hh3]; refine app_of ?_ _
                            rw [hh2]; exact set_ne hb hne
                          have at3 : h3[m]? = some (O.cells (boolsC (bs.set i true)) 4 (some 0)) := by rw [hh3]; exact app_of at2 _
                          have l3 : h3.length = h.length + 1 := by rw [hh3]; simp [l2]
                          obtain ⟨qlo, qsz, qat⟩ := hown.at_
                          have hown3 : OwnS h3 (m + 1) (.slice (some ⟨qb, 0, none⟩) qs.length qs.length) qs.length (natsC qs) 3 1 := hown.keep fun b s' e k => S3 _ _ k (by
                            simp only [Value.slice.injEq, Option.some.injEq, Addr.mk.injEq] at e
                            omega)
                          have hrd : readSlice h3 1 1 (some ⟨h.length, 0, none⟩) = some [.int .i64 i] := slice_read (by rw [hh3, ← l2, app_at0]; rfl) rfl
                          obtain ⟨qb', h4, f4, happ, hb', hown4, hf4, hf4', hl4, hk4⟩ := append_S (fl := h0.length) (c := 1) (bytes := 8) hown3 hrd rfl rfl (by omega) (by simp only [roomMax]; omega) (by omega)
                          have hf : f4 = h0.length := by omega
                          have K4 : ∀ (b : Nat) (o : O), b ≤ m → h3[b]? = some o → h4[b]? = some o := fun b o hb e => hk4 b o e fun n' c' ev => by
                            simp only [Value.slice.injEq, Option.some.injEq, Addr.mk.injEq] at ev
                            omega
                          simp [g1, g3, g4, g5, g6, g7, g8, g9, hp', rd_def, hb2, hi, hrp, hX, hbs', boolsC_get hib, hbi, hwp, wrN_def, hil, boolsC_set, hminm, ← hh2, l2, ← hh3, happ, hf, -List.length_append, -List.append_assoc]
                          refine ⟨kk3 - 1, by omega, p + 1, by omega, fun b o hb => ?_, bs.set i true, K4 m _ (Nat.le_refl _) at3, qs ++ [i], qb', ?_, ⟨by rw [qn_snoc (by omega), if_pos hkl]; exact hu, hMQ.hit hG hp hj hkl (by omega) (by rw [hu]; exact hX) hbi⟩, by rw [List.length_append]; omega, ⟨rfl, by simp⟩, by omega⟩
                          · have hbl := (List.getElem?_eq_some_iff.1 hb).1
                            exact K4 b o (by omega) (S3 b o (hsub b o hb) (by omega))
                          · rw [natsC_append, List.length_append]
                            exact hown4
                      · have hX' : ¬ (G.X i p : Int) = G.X u j := by omega
                        simp [g1, g3, g4, g5, g6, g7, g8, g9, hp', rd_def, hb2, hi, hrp, hX, hwp]
                        refine ⟨kk3 - 1, by omega, p + 1, by omega, hsub, bs, hbs, qs, qb, hown, ⟨hu, ?_⟩, hkl, ⟨rfl, rfl⟩, by omega⟩
                        exact hMQ.other hG hp hj (by omega) (by omega) (.inl (by rw [hu]; exact hX))
                    · have hp4 : p = 4 := by omega
                      subst hp4
                      simp [g1, g3, g4, g5, g6, g7, g8, g9, hwi]
                      exact ⟨kk2 - 1, by omega, i + 1, by omega, hsub, bs, hbs, qs, qb, hown, ⟨hu, by rw [Nat.mul_add]; exact hMQ⟩, hkl, ⟨rfl, rfl⟩, by omega⟩
                  · exact ⟨0, h, bs, qs, qb, by omega, rfl, hsub, hbs, hown, ⟨hu, hMQ⟩, hkl, by simp [g1, g3, g4, g5, g6, g7, g8]⟩
                · have hin : i = n := by omega
                  simp [g1, g3, g4, g5, g6, g7, g8, rd_def, hb2, hi, hwj]
                  have hww := (nb hG (c := u) (q := j) (by omega) hj)
                  rw [hu, if_pos (by omega)] at hMQ
                  exact ⟨kk' - 1, by omega, j + 1, by omega, hsub, bs, hbs, qs, qb, hown, hMQ, hkl, ⟨rfl, rfl⟩, by omega⟩
              · exact ⟨0, h, bs, qs, qb, by omega, rfl, hsub, hbs, hown, ⟨hu.symm, hst⟩, hkl, by simp [g1, g3, g4, g5, g6]⟩
            · have hj4 : j = 4 := by omega
              subst hj4
              simp [g1, g3, g4, g5, g6, hwk]
              refine ⟨kk - 1, ?_, k + 1, ?_, hsub, bs, hbs, qs, qb, hown, ⟨hMQ.q.next, hMQ.cnt, hMQ.rt⟩, by omega, ⟨rfl, rfl⟩, by omega⟩
              · have := hMQ.cnt; omega
              · have := hMQ.cnt; omega
          · exact ⟨0, h, bs, qs, qb, by omega, rfl, hsub, hbs, hown, hMQ, hkl, by simp [g1, g3, g4, g5]⟩
        · have hke : k = qs.length := by omega
          have hb2 := hsub _ _ bB
          have hfin := MQ.fin hG hMQ hke
          have hmc := mix_conn hG hP (by omega)
          have hq3 := hMQ.cnt
          by_cases hqn : qs.length < n
          · simp [g1, g3, g4, g5, hkl, rd_def, hb2, hqn, endK_ret]
            intro hM
            have := hfin.2 (hmc.1 hM.2.2.1)
            omega
          · have hqe : qs.length = n := by omega
            have hreg : (regs G).length = G.n + 2 := hmc.2 (hfin.1 (by omega))
            have hxh := hx.sub (sB.trans hsub)
            have hof := of_ hE (c := c) hxh hS
            rw [← hGe] at hof
            simp only [dV] at hof
            have hqn' : ¬ (qs.length : Int) < n := by omega
            simp [g1, g3, g4, g5, hkl, rd_def, rdN_def, hb2, hqn, hqn']
            refine hof.imp ?_
            rintro o ⟨h5, f5⟩ ⟨xs, k1, rfl, hf5, hs5, hat5, hO, hk1⟩
            simp only at hf5 hs5 hat5
            have hb5 := hs5 _ _ hb2
            have hct := count_ hE (c := c) (hxh.sub hs5) hS
            rw [← hGe] at hct
            simp only [dV] at hct
            simp [joined_fl, hf5, rdN_def, hb5, g1]
            refine hct.imp ?_
            rintro o ⟨h6, f6⟩ ⟨xs6, k6, hO6, hk6, rfl, he6⟩
            simp only [St.mk.injEq] at he6
            obtain rfl : h5 = h6 := he6.1.symm
            obtain rfl : h5.length = f6 := he6.2.symm
            have hkk6 : k6 = k1 := (hO6.numb.unique hO.numb).2
            subst hkk6
            have e1' : (k6 : Int) * 1 ≤ 140737488355328 := by omega
            have e2' : (k6 : Int) < 4611686018427387904 := by omega
            have e3' : (k6 : Int) ≤ 140737488355328 := by omega
            have hrep' : rep k6 [Value.bool false] = boolsC (List.replicate k6 false) := by simp [rep, boolsC]
            obtain ⟨ob, hob⟩ : ∃ ob, ob = h.length + 1 := ⟨_, rfl⟩
            have hat5' := hat5
            unfold AtB at hat5'
            rw [← hob] at hat5'
            have lat5 := (List.getElem?_eq_some_iff.1 hat5').1
            have sB5 : Sub hB h5 := hsub.trans hs5
            obtain ⟨H, hH⟩ : ∃ H, H = h5 ++ [O.cells (boolsC (List.replicate k6 false)) 4 (some 0), O.cells (boolsC (List.replicate k6 false)) 4 (some 0)] := ⟨_, rfl⟩
            have S5 : Sub h5 H := by rw [hH]; exact (Sub.refl _).app _
            have m0 : H[h5.length]? = some (O.cells (boolsC (List.replicate k6 false)) 4 (some 0)) := by rw [hH, app_at0]; rfl
            have m1 : H[h5.length + 1]? = some (O.cells (boolsC (List.replicate k6 false)) 4 (some 0)) := by rw [hH, app_at]; rfl
            have lsB5 := sB5.len
            have hmin5 : min h0.length h5.length = h0.length := by omega
            have hmin6 : min h0.length (h5.length + 1) = h0.length := by omega
            simp [joined_fl, e1', e2', e3', hrep', List.append_assoc, ← hob]
            rw [← hH]
            obtain ⟨P, hPe⟩ : ∃ P, P = h5.length := ⟨_, rfl⟩
            rw [← hPe] at m0 m1 hmin5 hmin6 lsB5 lat5 ⊢
            refine DW_loop (fun kk2 fr st => ∃ (i : Nat) (h : List O) (lo up : List Bool), i + kk2 = n ∧ st = ⟨h, h0.length⟩ ∧ (∀ (b : Nat) (o : O), h5[b]? = some o → h[b]? = some o) ∧ AtB h P (.cells (boolsC lo) 4 (some 0)) ∧ AtB h (P + 1) (.cells (boolsC up) 4 (some 0)) ∧ (lo.length = k6 ∧ up.length = k6) ∧
              (∀ j, j < k6 → (bnth lo j = true ↔ ∃ i', i' < i ∧ nth xs (G.X i' 0) = j)) ∧ (∀ j, j < k6 → (bnth up j = true ↔ ∃ i', i' < i ∧ nth xs (G.X i' 1) = j)) ∧
              get fr 1 = .pointer (some ⟨h0.length, 0, none⟩) ∧ get fr 10 = .slice (some ⟨ob, 0, none⟩) (2 * n) (2 * n) ∧ get fr 11 = .int .i64 k6 ∧ get fr 12 = .slice (some ⟨P, 0, none⟩) k6 k6 ∧ get fr 13 = .slice (some ⟨P + 1, 0, none⟩) k6 k6 ∧ get fr 14 = .int .i64 i) ?_ (k := n) ?_
            · clear g1 g3 g4 g5
              rintro kk2 fr st ⟨i, h7, lo, up, hik, rfl, hk7, hlo, hup, ⟨hll, hul⟩, hF, hU, g1, g10, g11, g12, g13, g14⟩
              have hlo' := hlo
              have hup' := hup
              unfold AtB at hlo' hup'
              have hb7 := hk7 _ _ hb5
              have hat7 := hk7 _ _ hat5'
              have hwx : ∀ i', i' < n → ∀ q, q < 4 → ∃ j : Nat, nth xs (G.X i' q) = j ∧ j < k6 ∧ G.X i' q < 2 * n ∧ x i' q = G.X i' q := fun i' hi' q hq => by
                have h1 := hG.X i' q (by omega) hq
                rw [hGn] at h1
                have h2 := hO.done _ h1
                have h5 := hxe i' q hi' hq
                rcases hO.val _ h1 with h3 | h3
                · omega
                · exact ⟨(nth xs (G.X i' q)).toNat, by omega, by omega, h1, h5⟩
              by_cases hi : i < n
              · have hw : IntKind.i64.wrap ((i : Int) + 1) = (i : Int) + 1 := by rw [w64_id] <;> omega
                obtain ⟨rq, rs⟩ := CrossP.reads (fun i hi => Sub.rdN (h := h0) (fun b o e => hk7 b o (sB5 b o (sB b o e))) (hxr i hi)) hi
                have r0 := rq 0 (by omega)
                have r1 := rq 1 (by omega)
                obtain ⟨j0, j1, j2, j3, j4⟩ := hwx i hi 0 (by omega)
                obtain ⟨u0, u1, u2, u3, u4⟩ := hwx i hi 1 (by omega)
                rw [j4] at r0
                rw [u4] at r1
                simp only [rd_def, Nat.add_zero] at r0 r1
                have hlx := hO.len
                have hjx : G.X i 0 < xs.length := by omega
                have hux : G.X i 1 < xs.length := by omega
                have d1 : ((G.X i 0 : Nat) : Int) < 2 * n := by omega
                have d2 : ((G.X i 1 : Nat) : Int) < 2 * n := by omega
                have d3 : j0 + 1 ≤ k6 := by omega
                have d4 : u0 + 1 ≤ k6 := by omega
                obtain ⟨h8, hh8⟩ : ∃ H, H = h7.set P (O.cells (boolsC (lo.set j0 true)) 4 (some 0)) := ⟨_, rfl⟩
                have K8 : ∀ (b : Nat) (o : O), h7[b]? = some o → b ≠ P → h8[b]? = some o := fun b o hb hne => by rw [hh8]; exact set_ne hb hne
                have b8 := K8 _ _ hb7 (by omega)
                have up8 := K8 _ _ hup' (by omega)
                have at8 := K8 _ _ hat7 (by omega)
                have lo8 : h8[P]? = some (O.cells (boolsC (lo.set j0 true)) 4 (some 0)) := by rw [hh8]; exact set_self hlo'
                have xb8 : h8[xb]? = h7[xb]? := by
                  rw [hh8, List.getElem?_set_ne]
                  have := hxr i hi
                  rw [rdN_def] at this
                  cases hx0 : h0[xb]? with
                  | none => rw [hx0] at this; simp [rdNO] at this
                  | some o => have := (List.getElem?_eq_some_iff.1 hx0).1; omega
                simp [g1, g10, g11, g12, g13, g14, hi, rd_def, hb7, r0, hat7, intsC_get hjx, d1, j1, j2, wrN_def, hlo', hll, d3, boolsC_set, hmin5, ← hh8, b8, xb8, r1, at8, intsC_get hux, d2, u1, u2, up8, hul, d4, hmin6, hw]
                refine ⟨kk2 - 1, by omega, i + 1, by omega, fun b' o hb' => ?_, lo.set j0 true, ?_, up.set u0 true, ?_, ⟨by simp [hll], by simp [hul]⟩, fun j hj => ?_, fun j hj => ?_, by omega⟩
                · have := (List.getElem?_eq_some_iff.1 hb').1
                  exact set_ne (K8 _ _ (hk7 _ _ hb') (by omega)) (by omega)
                · exact set_ne lo8 (by omega)
                · exact set_self up8
                · rw [bnth_set (by omega)]
                  by_cases e : j = j0
                  · rw [if_pos e]; exact ⟨fun _ => ⟨i, by omega, by rw [j1, e]⟩, fun _ => rfl⟩
                  · rw [if_neg e, hF j hj]
                    constructor
                    · rintro ⟨i', a1, a2⟩; exact ⟨i', by omega, a2⟩
                    · rintro ⟨i', a1, a2⟩
                      by_cases e2 : i' = i
                      · subst e2; omega
                      · exact ⟨i', by omega, a2⟩
                · rw [bnth_set (by omega)]
                  by_cases e : j = u0
                  · rw [if_pos e]; exact ⟨fun _ => ⟨i, by omega, by rw [u1, e]⟩, fun _ => rfl⟩
                  · rw [if_neg e, hU j hj]
                    constructor
                    · rintro ⟨i', a1, a2⟩; exact ⟨i', by omega, a2⟩
                    · rintro ⟨i', a1, a2⟩
                      by_cases e2 : i' = i
                      · subst e2; omega
                      · exact ⟨i', by omega, a2⟩
              · have hin : i = n := by omega
                subst hin
                simp [g1, g10, g11, g12, g13, g14, rd_def, hb7]
                have key : ∀ q, q < 4 → ∀ bs : List Bool, (∀ j, j < k6 → (bnth bs j = true ↔ ∃ i', i' < i ∧ nth xs (G.X i' q) = j)) → ((∀ j, j < k6 → bnth bs j = true) ↔ ∀ a, a < 2 * i → ∃ c, c < i ∧ SameC G (G.X c q) a) := fun q hq bs hbs => by
                  constructor
                  · intro hall a ha
                    have h2 := hO.done _ ha
                    obtain ⟨j, hj1, hj2⟩ : ∃ j : Nat, nth xs a = j ∧ j < k6 := by
                      rcases hO.val _ ha with h3 | h3
                      · omega
                      · exact ⟨(nth xs a).toNat, by omega, by omega⟩
                    obtain ⟨i', a1, a2⟩ := (hbs j hj2).1 (hall j hj2)
                    refine ⟨i', a1, (hO.rel _ _ (hwx i' a1 q hq).choose_spec.2.2.1 ha ?_).1 (by rw [a2, hj1])⟩
                    omega
                  · intro hall j hj
                    obtain ⟨a, a1, a2, _⟩ := hO.ord j hj
                    obtain ⟨c', b1, b2⟩ := hall a a1
                    obtain ⟨j', e1, e2, e3, _⟩ := hwx c' b1 q hq
                    have := (hO.rel _ _ e3 a1 (by omega)).2 b2
                    exact (hbs j hj).2 ⟨c', b1, by omega⟩
                have k1' := key 0 (by omega) lo hF
                have k2' := key 1 (by omega) up hU
                have hmx : MixG G ↔ (∀ j, j < k6 → bnth lo j = true) ∧ ∀ j, j < k6 → bnth up j = true := by
                  rw [k1', k2']
                  unfold MixG
                  rw [hGn, hGL]
                  constructor
                  · rintro ⟨_, _, _, h4⟩; exact ⟨fun a ha => (h4 a ha).1, fun a ha => (h4 a ha).2⟩
                  · rintro ⟨h4, h5⟩; exact ⟨by omega, rfl, by omega, fun a ha => ⟨h4 a ha, h5 a ha⟩⟩
                refine DW_loop (fun kk3 fr st => ∃ (j : Nat), j + kk3 = k6 ∧ st = ⟨h7, h0.length⟩ ∧ (∀ j', j' < j → bnth lo j' = true ∧ bnth up j' = true) ∧ get fr 11 = .int .i64 k6 ∧ get fr 12 = .slice (some ⟨P, 0, none⟩) k6 k6 ∧ get fr 13 = .slice (some ⟨P + 1, 0, none⟩) k6 k6 ∧ get fr 15 = .int .i64 j) ?_ (k := k6) ?_
                · clear g1 g10 g11 g12 g13 g14
                  rintro kk3 fr st ⟨j, hjk, rfl, hall, g11, g12, g13, g15⟩
                  by_cases hj : j < k6
                  · have hw : IntKind.i64.wrap ((j : Int) + 1) = (j : Int) + 1 := by rw [w64_id] <;> omega
                    have hjl : j < lo.length := by omega
                    have hju : j < up.length := by omega
                    cases hb1 : bnth lo j with
                    | false =>
                      simp [g11, g12, g13, g15, hj, rd_def, hlo', boolsC_get hjl, hb1, endK_ret]
                      intro hM
                      have := (hmx.1 hM).1 j hj
                      rw [hb1] at this; cases this
                    | true =>
                      cases hb2 : bnth up j with
                      | false =>
                        simp [g11, g12, g13, g15, hj, rd_def, hlo', hup', boolsC_get hjl, boolsC_get hju, hb1, hb2, endK_ret]
                        intro hM
                        have := (hmx.1 hM).2 j hj
                        rw [hb2] at this; cases this
                      | true =>
                        simp [g11, g12, g13, g15, hj, rd_def, hlo', hup', boolsC_get hjl, boolsC_get hju, hb1, hb2, hw]
                        refine ⟨kk3 - 1, by omega, j + 1, by omega, fun j' hj' => ?_, by omega⟩
                        by_cases e : j' = j
                        · rw [e]; exact ⟨hb1, hb2⟩
                        · exact hall j' (by omega)
                  · simp [g11, g12, g13, g15, hj, endK_ret]
                    exact hmx.2 ⟨fun j' hj' => (hall j' (by omega)).1, fun j' hj' => (hall j' (by omega)).2⟩
                · exact ⟨0, by omega, rfl, fun j hj => by omega, by simp [g11, g12, g13]⟩
            · refine ⟨0, H, List.replicate k6 false, List.replicate k6 false, by omega, rfl, S5, m0, m1, ⟨by simp, by simp⟩, fun j hj => ?_, fun j hj => ?_, by simp [g1]⟩
              · rw [bnth_rep hj]; simp
              · rw [bnth_rep hj]; simp
      · refine ⟨0, _, (List.replicate n false).set 0 true, [0], h0.length + 2, by omega, rfl, ?_, ?_, ?_, ?_, by simp, ?_⟩
        · rw [hhB]
          exact Ext.sub ⟨[O.cells (boolsC ((List.replicate n false).set 0 true)) 4 (some 0), O.cells [.int .i64 0] 3 (some 0)], by simp⟩
        · unfold AtB
          rw [hm, app_at]; simp
        · refine ⟨rfl, .inr ⟨_, 0, rfl, by omega, ?_, .inl rfl⟩⟩
          rw [app_at]; rfl
        · rw [← hGn]; exact MQ.start (by omega)
        · simp [hm]
    · have hm : mixD n x s L = false := by
        unfold mixD
        exact decide_eq_false fun h => hL h.2.2.1
      simp only [dV, hk] at h1
      simp [dV, rdN_at0, rd_at0, DC_when h1, hcl, joined_fl, hn, hm, hL]
  · have hm : mixD n x s L = false := by
      unfold mixD
      exact decide_eq_false fun h => hk h.1
    simp only [dV] at h1
    simp [dV, rdN_at0, DC_when h1, hcl, joined_fl, hk, hm]
end Go.Proofs.Ytjlkndkedknocaa
namespace Go.Proofs.Ytjlkndkedknocaa
open Go Go.Ai
set_option linter.unusedSimpArgs false
set_option linter.unusedVariables false
attribute [local instance] Classical.propDecidable
variable {E : Env} (hE : OE E)
include hE
theorem readyR_ {h0 : List O} {a : Option Addr} {n c : Nat} {x : Nat → Nat → Int} {s : Nat → Int} {L : Int} (hx : CrossP h0 a n x s) :
    DR E 81 [dV a n c L] ⟨h0, h0.length⟩ (.ret (.int .i64 (askD n x s L))) ⟨h0, h0.length⟩ := by
  refine hE.fn (body := rb81) rfl ?_
  unfold rb81
  have hcl : ∀ l, CrossP (h0 ++ l) a n x s := fun l => hx.ext (Ext.snoc h0 l)
  have h1 := fun h k => checkR_ hE (h0 := h) (a := a) (x := x) (c := c) (L := L) (n := n) (s := s) k
  have h2 := fun h k => mixedR_ hE (h0 := h) (a := a) (x := x) (c := c) (L := L) (n := n) (s := s) k
  by_cases hk : kindD n x s L = 0
  · by_cases hm : MixG (dgOf n x s L)
    · have e : mixD n x s L = true := decide_eq_true ⟨hk, hm⟩
      simp only [dV, hk, e] at h1 h2
      simp [dV, rdN_at0, DC_when h1, DC_when h2, hcl, joined_fl, askD, hk, hm]
    · have e : mixD n x s L = false := decide_eq_false fun h => hm h.2
      simp only [dV, hk, e] at h1 h2
      simp [dV, rdN_at0, DC_when h1, DC_when h2, hcl, joined_fl, askD, hk, hm]
  · simp only [dV] at h1
    simp [dV, rdN_at0, DC_when h1, hcl, joined_fl, askD, hk]
theorem ident_ {h : List O} : DR E 82 [] ⟨h, h.length⟩ (.ret (permV 0 1 2 3)) ⟨h, h.length⟩ := by
  refine hE.fn (body := rb82) rfl ?_
  unfold rb82
  simp [permV, wrN_at0, set_at0, rdN_at0, back_scalar, Out.scalar, scalar, flat1, flat]
theorem ArcR_ {h0 : List O} {a : Option Addr} {n c : Nat} {x : Nat → Nat → Int} {s : Nat → Int} {L : Int} (hx : CrossP h0 a n x s) {arc : Int} :
    DC E 25 [dV a n c L, .int .i64 arc] ⟨h0, h0.length⟩ fun o st' =>
      (askD n x s L ≠ 0 ∧ o = .ret (.tuple #[.slice none 0 0, .int .i64 (askD n x s L)]) ∧ st' = ⟨h0, h0.length⟩) ∨
      (askD n x s L = 0 ∧ ¬ (0 ≤ arc ∧ arc < 2 * n) ∧ o = .ret (.tuple #[.slice none 0 0, .int .i64 1]) ∧ st' = ⟨h0, h0.length⟩) ∨
      (askD n x s L = 0 ∧ (0 ≤ arc ∧ arc < 2 * n) ∧ ∃ b, o = .ret (.tuple #[.slice (some ⟨b, 0, none⟩) 4 4, .int .i64 0]) ∧ h0.length ≤ b ∧ h0.length ≤ st'.fl ∧ Sub h0 st'.h ∧ AtB st'.h b (.cells (alongC (dgOf n x s L) arc.toNat) 42 (some 0))) := by
  refine hE.fnC (body := rb25) rfl ?_
  unfold rb25
  obtain ⟨hB, hhB⟩ : ∃ H, H = h0 ++ [O.cells [.slice a n c, .int .i64 L] 24 (some 0)] := ⟨_, rfl⟩
  have hBs : Sub h0 hB := by rw [hhB]; exact (Sub.refl _).app _
  have lB : hB.length = h0.length + 1 := by rw [hhB]; simp
  have hB0 : hB[h0.length]? = some (O.cells [.slice a n c, .int .i64 L] 24 (some 0)) := by rw [hhB, app_at0]; rfl
  have hask := readyR_ hE (c := c) (L := L) (hx.sub hBs)
  simp [dV, List.append_assoc, ← hhB, rdN_def, hB0]
  simp only [dV] at hask
  by_cases hk : askD n x s L = 0
  · obtain ⟨hS, hn, hsz⟩ := ask_pos hk
    have hw2n : IntKind.i64.wrap (2 * (n : Int)) = 2 * n := by rw [w64_id] <;> omega
    rw [hk] at hask
    by_cases ha : 0 ≤ arc ∧ arc < 2 * n
    · have d1 : ¬ arc < 0 := by omega
      have d2 : ¬ 2 * (n : Int) ≤ arc := by omega
      obtain ⟨ar, har⟩ : ∃ ar : Nat, arc = ar := ⟨arc.toNat, by omega⟩
      subst har
      have hbt := arcR_ hE (c := c) (hx.sub hBs) hS (arc := ar) (by omega)
      simp only [dV] at hbt
      simp [DC_of hask, joined_fl, rdN_def, rd_def, hB0, d1, d2, hw2n]
      refine hbt.imp ?_
      rintro o ⟨h1, f1⟩ ⟨b, rfl, l1, hf, hs, hat⟩
      simp only at hf hs hat
      simp [joined_fl, hf]
      unfold pairQ back
      rw [if_neg (by simp [Out.scalar, scalar, flat1, flat])]
      refine .inr ⟨hk, by omega, b, rfl, by omega, Nat.le_refl _, hBs.trans hs, hat⟩
    · by_cases d1 : arc < 0
      · simp [DC_of hask, joined_fl, rdN_def, rd_def, hB0, d1, back_scalar, Out.scalar, scalar, flat1, flat]
        exact .inr ⟨hk, by omega⟩
      · have d2 : 2 * (n : Int) ≤ arc := by omega
        simp [DC_of hask, joined_fl, rdN_def, rd_def, hB0, d1, d2, hw2n, back_scalar, Out.scalar, scalar, flat1, flat]
        exact .inr hk
  · simp [DC_of hask, joined_fl, hk, back_scalar, Out.scalar, scalar, flat1, flat]
end Go.Proofs.Ytjlkndkedknocaa
namespace Go.Proofs.Ytjlkndkedknocaa
open Go Go.Ai
set_option linter.unusedSimpArgs false
set_option linter.unusedVariables false
attribute [local instance] Classical.propDecidable
/-- The gluing in memory (kept from simp). -/
structure GlM (hA h : List O) (m N : Nat) (F : Nat → Nat → Option (Nat × Bool)) : Prop where
  sub : Sub hA h
  gl : h[m + 1]? = some (.cells [.slice (some ⟨m, 0, none⟩) N N] 29 (some 0))
  at_ : ∃ cs, h[m]? = some (.cells cs 100 (some 0)) ∧ FacesC cs N F
theorem GlM.app {hA h h' : List O} {m N : Nat} {F : Nat → Nat → Option (Nat × Bool)} (k : GlM hA h m N F) (hs : Sub h h') : GlM hA h' m N F := by
  obtain ⟨k1, k2, cs, k3, k4⟩ := k
  exact ⟨k1.trans hs, hs _ _ k2, cs, hs _ _ k3, k4⟩
theorem joinF_eq (F : Nat → Nat → Option (Nat × Bool)) (ta fa tb fb : Nat) (sw : Bool) : joinF F ta fa tb fb sw = updF (updF F ta fa (some (tb, sw))) tb fb (some (ta, sw)) := rfl
theorem glC_step (i q : Nat) (hq : q < 4) : glC (4 * i + (q + 1)) = joinF (glC (4 * i + q)) (4 * i + q) (3 - (q + 1) % 4 % 2) (4 * i + (q + 1) % 4) (3 - (q + 1) % 4 % 2) false := by
  have e1 : (4 * i + q) % 4 = q := by omega
  have e2 : (4 * i + q) / 4 = i := by omega
  show joinF (glC (4 * i + q)) (4 * i + q) (3 - ((4 * i + q) % 4 + 1) % 4 % 2) (4 * ((4 * i + q) / 4) + ((4 * i + q) % 4 + 1) % 4) (3 - ((4 * i + q) % 4 + 1) % 4 % 2) false = _
  rw [e1, e2]
/-- The gluing after r of an arc's two joins. -/
def glR (G : Dg) (a : Nat) : Nat → Nat → Nat → Option (Nat × Bool)
  | 0 => glA G a
  | r + 1 => glJ G a (2 * r) (glR G a r)
theorem alongC_get (G : Dg) (a : Nat) : alongC G a = [.int .i64 (alT G a 0), .int .i64 (alF G a 0), .int .i64 (alT G a 1), .int .i64 (alF G a 1), .int .i64 (alT G a 2), .int .i64 (alF G a 2), .int .i64 (alT G a 3), .int .i64 (alF G a 3)] := rfl
variable {E : Env} (hE : OE E)
include hE
theorem OutsideR_ {h0 : List O} {a : Option Addr} {n c : Nat} {x : Nat → Nat → Int} {s : Nat → Int} {L : Int} (hx : CrossP h0 a n x s) :
    DC E 17 [dV a n c L] ⟨h0, h0.length⟩ fun o st' =>
      (askD n x s L ≠ 0 ∧ o = .ret (.tuple #[.agg #[.slice none 0 0], .int .i64 (askD n x s L)]) ∧ st' = ⟨h0, h0.length⟩) ∨
      (askD n x s L = 0 ∧ ∃ fb, o = .ret (.tuple #[.agg #[.slice (some ⟨fb, 0, none⟩) (4 * n) (4 * n)], .int .i64 0]) ∧ h0.length ≤ fb ∧ h0.length ≤ st'.fl ∧ Sub h0 st'.h ∧ ∃ cs', AtB st'.h fb (.cells cs' 100 (some 0)) ∧ FacesC cs' (4 * n) (outF (dgOf n x s L))) := by
  refine hE.fnC (body := rb17) rfl ?_
  unfold rb17
  obtain ⟨hA, hhA⟩ : ∃ H, H = h0 ++ [O.cells [.slice a n c, .int .i64 L] 24 (some 0), O.cells [.slice none 0 0] 29 (some 0)] := ⟨_, rfl⟩
  have sA : Sub h0 hA := by rw [hhA]; exact (Sub.refl _).app _
  have lA : hA.length = h0.length + 2 := by rw [hhA]; simp
  have bA : hA[h0.length]? = some (O.cells [.slice a n c, .int .i64 L] 24 (some 0)) := by rw [hhA, app_at0]; rfl
  have bA1 : hA[h0.length + 1]? = some (O.cells [.slice none 0 0] 29 (some 0)) := by rw [hhA, app_at]; rfl
  have hask := fun h k => readyR_ hE (h0 := h) (a := a) (x := x) (c := c) (L := L) (n := n) (s := s) k
  have hxA := hx.sub sA
  have hmin : min h0.length (h0.length + 1) = h0.length := by omega
  simp only [dV] at hask
  by_cases hk : askD n x s L = 0
  · obtain ⟨hS, hn, hsz⟩ := ask_pos hk
    rw [hk] at hask
    have hG := good_of hS
    have harc := fun {ar : Nat} (ha : ar < 2 * n) h k => arcR_ hE (h0 := h) (a := a) (x := x) (c := c) k hS ha
    simp only [dV] at harc
    obtain ⟨G, hGe⟩ : ∃ G, G = dgOf n x s L := ⟨_, rfl⟩
    have hGn : G.n = n := by rw [hGe]; rfl
    rw [← hGe] at hG ⊢
    simp only [← hGe] at harc
    have w1 : IntKind.i64.wrap (4 * (n : Int)) = 4 * n := by rw [w64_id] <;> omega
    have e1 : (0 : Int) ≤ 4 * n := by omega
    have e2 : 4 * (n : Int) * 160 ≤ 140737488355328 := by omega
    have e3 : 4 * (n : Int) < 4611686018427387904 := by omega
    have e4 : (4 * (n : Int)).toNat = 4 * n := by omega
    have hrep : rep (4 * n) (List.replicate 20 (Value.int .i64 0)) = List.replicate (20 * (4 * n)) (.int .i64 0) := by
      show (List.replicate (4 * n) (List.replicate 20 (Value.int .i64 0))).flatten = _
      rw [List.flatten_replicate_replicate, show 4 * n * 20 = 20 * (4 * n) by omega]
    simp only [List.replicate] at hrep
    obtain ⟨hB, hhB⟩ : ∃ H, H = hA ++ [O.cells (List.replicate (20 * (4 * n)) (.int .i64 0)) 100 (some 0), O.cells [.slice (some ⟨hA.length, 0, none⟩) (4 * n) (4 * n)] 29 (some 0)] := ⟨_, rfl⟩
    simp [dV, List.append_assoc, ← hhA, rdN_def, rd_def, bA, DC_when hask, hxA, joined_fl, w1, e1, e2, e3, e4, hrep, wrN_at, set_at]
    rw [← hhB]
    obtain ⟨m, hm⟩ : ∃ m, m = hA.length := ⟨_, rfl⟩
    have hB0 : GlM hA hB m (4 * n) (glC 0) := by
      refine ⟨by rw [hhB]; exact (Sub.refl _).app _, by rw [hhB, hm, app_at]; rfl, _, by rw [hhB, hm, app_at0]; rfl, FacesC.zero _⟩
    rw [← hm] at lA ⊢
    have hminm : min h0.length m = h0.length := by omega
    have hid := fun h => ident_ hE (h := h)
    simp only [permV] at hid
    refine DW_loop (fun kk fr st => ∃ (i : Nat) (h : List O), i + kk = n ∧ st = ⟨h, h0.length⟩ ∧ GlM hA h m (4 * n) (glC (4 * i)) ∧ get fr 1 = .pointer (some ⟨h0.length, 0, none⟩) ∧ get fr 2 = .pointer (some ⟨h0.length + 1, 0, none⟩) ∧ get fr 5 = .pointer (some ⟨m + 1, 0, none⟩) ∧ get fr 6 = .int .i64 i) ?_ (k := n) ?_
    · rintro kk fr st ⟨i, h, hik, rfl, hM, g1, g2, g5, g6⟩
      have hb := hM.sub _ _ bA
      by_cases hi : i < n
      · simp [g1, g2, g5, g6, rd_def, hb, hi]
        refine DW_loop (fun kk' fr st => ∃ (q : Nat) (h : List O), q + kk' = 4 ∧ st = ⟨h, h0.length⟩ ∧ GlM hA h m (4 * n) (glC (4 * i + q)) ∧ get fr 1 = .pointer (some ⟨h0.length, 0, none⟩) ∧ get fr 2 = .pointer (some ⟨h0.length + 1, 0, none⟩) ∧ get fr 5 = .pointer (some ⟨m + 1, 0, none⟩) ∧ get fr 6 = .int .i64 i ∧ get fr 7 = .int .i64 q) ?_ (k := 4) ?_
        · clear g1 g2 g5 g6 hM hb
          clear h
          rintro kk' fr st ⟨q, h, hqk, rfl, hM, g1, g2, g5, g6, g7⟩
          by_cases hq : q < 4
          · have hq' : (q : Int) < 4 := by omega
            obtain ⟨cs, hcs, hF⟩ := hM.at_
            have hgl := hM.gl
            have hwq : IntKind.i64.wrap ((q : Int) + 1) = (q : Int) + 1 := by rw [w64_id] <;> omega
            have hm4 : ((q : Int) + 1).tmod 4 = (((q + 1) % 4 : Nat) : Int) := tmod_add q 1 4
            have hst := glC_step i q hq
            obtain ⟨p8, hp8⟩ : ∃ p8, p8 = (q + 1) % 4 := ⟨_, rfl⟩
            rw [← hp8] at hm4 hst
            have hm2 : ((p8 : Nat) : Int).tmod 2 = ((p8 % 2 : Nat) : Int) := tmod_nat p8 2
            obtain ⟨p9, hp9⟩ : ∃ p9, p9 = 3 - p8 % 2 := ⟨_, rfl⟩
            obtain ⟨p2, hp2⟩ : ∃ p2, p2 = p8 % 2 := ⟨_, rfl⟩
            rw [← hp9] at hst
            rw [← hp2] at hm2
            have hw9 : IntKind.i64.wrap (3 - (p2 : Int)) = (p9 : Int) := by rw [w64_id] <;> omega
            obtain ⟨T1, hT1⟩ : ∃ T1, T1 = 4 * i + q := ⟨_, rfl⟩
            obtain ⟨T2, hT2⟩ : ∃ T2, T2 = 4 * i + p8 := ⟨_, rfl⟩
            have hwi : IntKind.i64.wrap (4 * (i : Int)) = 4 * (i : Int) := by rw [w64_id] <;> omega
            have hwT1 : IntKind.i64.wrap (4 * (i : Int) + q) = (T1 : Int) := by rw [w64_id] <;> omega
            have hwT2 : IntKind.i64.wrap (4 * (i : Int) + p8) = (T2 : Int) := by rw [w64_id] <;> omega
            rw [← hT1, ← hT2, joinF_eq] at hst
            rw [← hT1] at hF
            have hF1 := hF.set (t := T1) (f := p9) (by omega) (by omega) (some (T2, false))
            have hF2 := hF1.set (t := T2) (f := p9) (by omega) (by omega) (some (T1, false))
            rw [← hst] at hF2
            simp only [fcC, Bool.false_eq_true, if_false] at hF1 hF2
            have hlen := hF.1
            have i1 : (T1 : Int) < 4 * n := by omega
            have i2 : (T2 : Int) < 4 * n := by omega
            have i3 : (p9 : Int) < 4 := by omega
            have b1 : T1 * 20 + p9 * 5 + 5 ≤ 20 * (4 * n) := by omega
            have b2 : T2 * 20 + p9 * 5 + 5 ≤ 20 * (4 * n) := by omega
            have hgs : ∀ o, (h.set m o)[m + 1]? = h[m + 1]? := fun o => List.getElem?_set_ne (by omega)
            have hms : ∀ o, (h.set m o)[m]? = some o := fun o => set_self hcs
            simp [g1, g2, g5, g6, g7, hq', hwq, hm4, hm2, hw9, hwi, hwT1, hwT2, rd_def, hgl, DC_q hid, joined_fl, i1, i2, i3, wrN_def, hcs, hlen, b1, b2, hgs, hms, setL_len, hminm]
            refine ⟨by decide, kk' - 1, by omega, q + 1, by omega, ⟨hM.sub.set (by omega) _, (hgs _).trans hgl, _, hms _, hF2⟩, by omega⟩
          · have hq4 : q = 4 := by omega
            subst hq4
            have hw : IntKind.i64.wrap ((i : Int) + 1) = (i : Int) + 1 := by rw [w64_id] <;> omega
            simp [g1, g2, g5, g6, g7, hw]
            exact ⟨kk - 1, by omega, i + 1, by omega, by rw [Nat.mul_add]; exact hM, by omega⟩
        · exact ⟨0, h, by omega, rfl, hM, by simp [g1, g2, g5, g6]⟩
      · have hin : i = n := by omega
        rw [hin] at hM
        simp [g1, g2, g5, g6, rd_def, hb, hi]
        have hw2n : IntKind.i64.wrap (2 * (n : Int)) = 2 * n := by rw [w64_id] <;> omega
        have hM0 : GlM hA h m (4 * n) (glA G 0) := by
          show GlM hA h m (4 * n) (glC (4 * G.n))
          rw [hGn]; exact hM
        clear hM
        refine DW_loop (fun kk fr st => ∃ (ar : Nat) (h : List O), ar + kk = 2 * n ∧ st = ⟨h, h0.length⟩ ∧ GlM hA h m (4 * n) (glA G ar) ∧ get fr 1 = .pointer (some ⟨h0.length, 0, none⟩) ∧ get fr 2 = .pointer (some ⟨h0.length + 1, 0, none⟩) ∧ get fr 5 = .pointer (some ⟨m + 1, 0, none⟩) ∧ get fr 10 = .int .i64 ar) ?_ (k := 2 * n) ?_
        · clear g1 g2 g5 g6 hM0 hb
          clear h
          rintro kk fr st ⟨ar, h, hak, rfl, hM, g1, g2, g5, g10⟩
          have hb := hM.sub _ _ bA
          by_cases ha : ar < 2 * n
          · have ha' : (ar : Int) < 2 * n := by omega
            have hwa : IntKind.i64.wrap ((ar : Int) + 1) = (ar : Int) + 1 := by rw [w64_id] <;> omega
            have hal := harc ha h (hxA.sub hM.sub)
            have lmh := (List.getElem?_eq_some_iff.1 hM.gl).1
            simp [g1, g2, g5, g10, rd_def, rdN_def, hb, hw2n, ha']
            refine hal.imp ?_
            rintro o ⟨h1, f1⟩ ⟨ab, rfl, hab, hf1, hs1, hat⟩
            simp only at hf1 hs1 hat
            unfold AtB at hat
            simp [joined_fl, hf1]
            refine DW_loop (fun kk' fr st => ∃ (r : Nat) (h : List O), r + kk' = 2 ∧ st = ⟨h, h0.length⟩ ∧ GlM hA h m (4 * n) (glR G ar r) ∧ AtB h ab (.cells (alongC G ar) 42 (some 0)) ∧ get fr 1 = .pointer (some ⟨h0.length, 0, none⟩) ∧ get fr 2 = .pointer (some ⟨h0.length + 1, 0, none⟩) ∧ get fr 5 = .pointer (some ⟨m + 1, 0, none⟩) ∧ get fr 10 = .int .i64 ar ∧ get fr 11 = .slice (some ⟨ab, 0, none⟩) 4 4 ∧ get fr 12 = .int .i64 (2 * r : Nat)) ?_ (k := 2) ?_
            · clear g1 g2 g5 g10
              rintro kk' fr st ⟨r, h2, hrk, rfl, hM2, hat2, g1, g2, g5, g10, g11, g12⟩
              have hat2' := hat2
              unfold AtB at hat2'
              by_cases hr : r < 2
              · obtain ⟨tA, htA⟩ : ∃ tA, tA = alT G ar (2 * r) := ⟨_, rfl⟩
                obtain ⟨fA, hfA⟩ : ∃ fA, fA = alF G ar (2 * r) := ⟨_, rfl⟩
                obtain ⟨tB, htB⟩ : ∃ tB, tB = alT G ar (2 * r + 1) := ⟨_, rfl⟩
                obtain ⟨fB, hfB⟩ : ∃ fB, fB = alF G ar (2 * r + 1) := ⟨_, rfl⟩
                have hlA := alT_lt hG (a := ar) (by omega) (2 * r)
                have hlB := alT_lt hG (a := ar) (by omega) (2 * r + 1)
                rw [← htA, ← hfA] at hlA
                rw [← htB, ← hfB] at hlB
                have hd1 : ((alongC G ar).drop (2 * r * 2)).take 2 = [.int .i64 tA, .int .i64 fA] := by
                  rw [htA, hfA]
                  match r, hr with
                  | 0, _ => rfl
                  | 1, _ => rfl
                have hd2 : ((alongC G ar).drop ((2 * r + 1) * 2)).take 2 = [.int .i64 tB, .int .i64 fB] := by
                  rw [htB, hfB]
                  match r, hr with
                  | 0, _ => rfl
                  | 1, _ => rfl
                have hal8 : (alongC G ar).length = 8 := rfl
                obtain ⟨u, hu⟩ : ∃ u, u = 2 * r := ⟨_, rfl⟩
                obtain ⟨cs, hcs, hF⟩ := hM2.at_
                have hstep : glR G ar (r + 1) = joinF (glR G ar r) tA fA tB fB (!decide (fA = fB)) := by
                  rw [htA, hfA, htB, hfB]; rfl
                rw [← hu] at hd1 hd2 g12
                have hu4 : (u : Int) < 4 := by omega
                have hu41 : (u : Int) + 1 < 4 := by omega
                have hu42 : ((u : Int) + 1).toNat = u + 1 := by omega
                have hb1 : u * 2 + 2 ≤ 8 := by omega
                have hb2 : (u + 1) * 2 + 2 ≤ 8 := by omega
                have hwu : IntKind.i64.wrap ((u : Int) + 1) = (u : Int) + 1 := by rw [w64_id] <;> omega
                have hwu2 : IntKind.i64.wrap ((u : Int) + 2) = (u : Int) + 2 := by rw [w64_id] <;> omega
                have hu0 : (0 : Int) ≤ (u : Int) + 1 := by omega
                have hgl := hM2.gl
                have lm := (List.getElem?_eq_some_iff.1 hcs).1
                have lm1 := (List.getElem?_eq_some_iff.1 hgl).1
                have lab := (List.getElem?_eq_some_iff.1 hat2').1
                have hsl2 := hM2.sub.len
                have hminh : min h0.length h2.length = h0.length := by omega
                have hminh1 : min h0.length (h2.length + 1) = h0.length := by omega
                have hminh2 : min h0.length (h2.length + 2) = h0.length := by omega
                have ga : ∀ l, (h2 ++ l)[ab]? = _ := fun l => app_of hat2' l
                have gm : ∀ l, (h2 ++ l)[m]? = _ := fun l => app_of hcs l
                have gm1 : ∀ l, (h2 ++ l)[m + 1]? = _ := fun l => app_of hgl l
                have gs : ∀ l o, ((h2 ++ l).set m o)[m]? = some o := fun l o => set_self (gm l)
                have gs1 : ∀ l o, ((h2 ++ l).set m o)[m + 1]? = (h2 ++ l)[m + 1]? := fun l o => List.getElem?_set_ne (by omega)
                have gh0 : ∀ l o, ((h2 ++ l).set m o)[h2.length]? = l[0]? := fun l o => by rw [List.getElem?_set_ne (by omega), app_at0]
                have ghk : ∀ l o k, ((h2 ++ l).set m o)[h2.length + k]? = l[k]? := fun l o k => by rw [List.getElem?_set_ne (by omega), app_at]
                have gh1 : ∀ l o, ((h2 ++ l).set m o)[h2.length + 1]? = l[1]? := fun l o => ghk l o 1
                have gh2 : ∀ l o, ((h2 ++ l).set m o)[h2.length + 2]? = l[2]? := fun l o => ghk l o 2
                have i1 : (tA : Int) < 4 * n := by omega
                have i2 : (tB : Int) < 4 * n := by omega
                have i3 : (fA : Int) < 4 := by omega
                have i4 : (fB : Int) < 4 := by omega
                have hlen := hF.1
                have b1 : tA * 20 + fA * 5 + 5 ≤ 20 * (4 * n) := by omega
                have b2 : tB * 20 + fB * 5 + 5 ≤ 20 * (4 * n) := by omega
                have hF1 := hF.set (t := tA) (f := fA) (by omega) (by omega) (some (tB, !decide (fA = fB)))
                have hF2 := hF1.set (t := tB) (f := fB) (by omega) (by omega) (some (tA, !decide (fA = fB)))
                rw [joinF_eq] at hstep
                rw [← hstep] at hF2
                by_cases hff : fA = fB
                · rw [decide_eq_true hff] at hF2
                  simp only [fcC, Bool.not_true, Bool.false_eq_true, if_false] at hF2
                  subst hff
                  simp [g1, g2, g5, g10, g11, g12, hu4, hu41, hu42, hu0, hb1, hb2, hwu, hwu2, rdN_def, rd_def, hat2', hd1, hd2, hal8, wrN_at0, set_at0, wrN_at, set_at, app_at0, app_at, ga, gm, gm1, List.append_assoc, DC_q hid, joined_fl, hminh, hminh1, hminh2, i1, i2, i3, i4, wrN_def, hlen, b1, b2, gs, gs1, ↓gh0, ↓gh1, ↓gh2, setL_len, hminm]
                  refine ⟨⟨by omega, by omega, by omega, by omega⟩, ⟨by omega, by omega, by omega, by omega⟩, kk' - 1, by omega, r + 1, by omega, ⟨(hM2.sub.app _).set (by omega) _, (gs1 _ _).trans (gm1 _), _, gs _ _, hF2⟩, set_ne (ga _) (by omega), by omega⟩
                · have hff' : ¬ (fA : Int) = fB := by omega
                  rw [decide_eq_false hff] at hF2
                  simp only [fcC, Bool.not_false, if_true] at hF2
                  simp [g1, g2, g5, g10, g11, g12, hu4, hu41, hu42, hu0, hb1, hb2, hwu, hwu2, rdN_def, rd_def, hat2', hd1, hd2, hal8, wrN_at0, set_at0, wrN_at, set_at, app_at0, app_at, ga, gm, gm1, List.append_assoc, DC_q hid, joined_fl, hminh, hminh1, hminh2, i1, i2, i3, i4, wrN_def, hlen, b1, b2, gs, gs1, ↓gh0, ↓gh1, ↓gh2, setL_len, hminm, hff, hff']
                  refine ⟨⟨by omega, by omega, by omega, by omega⟩, ⟨by omega, by omega, by omega, by omega⟩, kk' - 1, by omega, r + 1, by omega, ⟨(hM2.sub.app _).set (by omega) _, (gs1 _ _).trans (gm1 _), _, gs _ _, hF2⟩, set_ne (ga _) (by omega), by omega⟩
              · have hr2 : r = 2 := by omega
                subst hr2
                simp [g1, g2, g5, g10, g11, g12, hwa]
                exact ⟨kk - 1, by omega, ar + 1, by omega, hM2, by omega⟩
            · refine ⟨0, h1, by omega, rfl, hM.app hs1, hat, by simp [g1, g2, g5, g10]⟩
          · have ha' : ¬ (ar : Int) < 2 * n := by omega
            have han : ar = 2 * n := by omega
            have hof : glA G ar = outF G := by rw [han]; unfold outF; rw [hGn]
            obtain ⟨cs, hcs, hF⟩ := hM.at_
            rw [hof] at hF
            have hgl := hM.gl
            have hb1 := hM.sub _ _ bA1
            have hself : ∀ o, (h.set (h0.length + 1) o)[h0.length + 1]? = some o := fun o => set_self hb1
            simp [g1, g2, g5, g10, rd_def, rdN_def, hb, hw2n, ha', hgl, wrN_def, hb1, hself, hmin, endK_ret]
            unfold pairQ back
            rw [if_neg (by simp [Out.scalar, scalar, flat1, flat])]
            exact .inr ⟨hk, m, rfl, by omega, Nat.le_refl _, (sA.trans hM.sub).set (by omega) _, cs, set_ne hcs (by omega), hF⟩
        · exact ⟨0, h, by omega, rfl, hM0, by simp [g1, g2, g5]⟩
    · exact ⟨0, hB, by omega, by rw [show min h0.length (m + 1) = h0.length by omega], hB0, by simp [hm]⟩
  · have hself : ∀ o, (hA.set (h0.length + 1) o)[h0.length + 1]? = some o := fun o => set_self bA1
    simp [dV, List.append_assoc, ← hhA, rdN_def, bA, DC_when hask, hxA, joined_fl, hk, wrN_def, bA1, hmin, hself, back_scalar, Out.scalar, scalar, flat1, flat]
end Go.Proofs.Ytjlkndkedknocaa
namespace Go.Proofs.Ytjlkndkedknocaa
open Go Go.Ai
set_option linter.unusedSimpArgs false
set_option linter.unusedVariables false
attribute [local instance] Classical.propDecidable
/-- Where a face goes. -/
def outE (G : Dg) (t f : Nat) : Nat × Bool :=
  if 2 ≤ f then
    (if f = 3 - (t % 4 + 1) % 4 % 2 then (4 * (t / 4) + (t % 4 + 1) % 4, false) else (4 * (t / 4) + (t % 4 + 3) % 4, false))
  else if f = t % 4 % 2 then (4 * (oth G (t / 4, t % 4)).1 + ((oth G (t / 4, t % 4)).2 + 3) % 4, !decide (f = (oth G (t / 4, t % 4)).2 % 2))
  else (4 * (oth G (t / 4, (t % 4 + 1) % 4)).1 + (oth G (t / 4, (t % 4 + 1) % 4)).2, !decide (f = (oth G (t / 4, (t % 4 + 1) % 4)).2 % 2))
/-- The place to which one of the first two faces belongs. -/
def plF (t f : Nat) : Nat × Nat := (t / 4, if f = t % 4 % 2 then t % 4 else (t % 4 + 1) % 4)
theorem updF_same {F : Nat → Nat → Option (Nat × Bool)} {t f : Nat} {x : Option (Nat × Bool)} : updF F t f x t f = x := by unfold updF; rw [if_pos ⟨rfl, rfl⟩]
theorem updF_else {F : Nat → Nat → Option (Nat × Bool)} {t f t' f' : Nat} {x : Option (Nat × Bool)} (h : ¬ (t' = t ∧ f' = f)) : updF F t f x t' f' = F t' f' := by unfold updF; rw [if_neg h]
/-- Whatever is written, is right. -/
theorem updF_right {G : Dg} {F : Nat → Nat → Option (Nat × Bool)} {t f t' f' : Nat} {x : Option (Nat × Bool)} (hx : x = some (outE G t f)) (h : F t' f' = some (outE G t' f') ∨ (t' = t ∧ f' = f)) : updF F t f x t' f' = some (outE G t' f') := by
  by_cases e : t' = t ∧ f' = f
  · rw [e.1, e.2, updF_same, hx]
  · rw [updF_else e]
    rcases h with h | h
    · exact h
    · exact absurd h e
theorem glC_right (G : Dg) : ∀ j t f, (∃ j', j' < j ∧ ((t = j' ∧ f = 3 - (j' % 4 + 1) % 4 % 2) ∨ (t = 4 * (j' / 4) + (j' % 4 + 1) % 4 ∧ f = 3 - (j' % 4 + 1) % 4 % 2))) → glC j t f = some (outE G t f) := by
  intro j
  induction j with
  | zero => rintro t f ⟨j', h, _⟩; omega
  | succ j ih =>
    rintro t f ⟨j', h1, h2⟩
    have hq : j % 4 < 4 := Nat.mod_lt _ (by omega)
    show updF (updF (glC j) j (3 - (j % 4 + 1) % 4 % 2) (some (4 * (j / 4) + (j % 4 + 1) % 4, false))) (4 * (j / 4) + (j % 4 + 1) % 4) (3 - (j % 4 + 1) % 4 % 2) (some (j, false)) t f = _
    have w1 : some (4 * (j / 4) + (j % 4 + 1) % 4, false) = some (outE G j (3 - (j % 4 + 1) % 4 % 2)) := by
      unfold outE
      rw [if_pos (by omega), if_pos rfl]
    have w2 : some (j, false) = some (outE G (4 * (j / 4) + (j % 4 + 1) % 4) (3 - (j % 4 + 1) % 4 % 2)) := by
      unfold outE
      have e1 : (4 * (j / 4) + (j % 4 + 1) % 4) % 4 = (j % 4 + 1) % 4 := by omega
      have e2 : (4 * (j / 4) + (j % 4 + 1) % 4) / 4 = j / 4 := by omega
      rw [if_pos (by omega), e1, e2, if_neg (by omega)]
      congr 2
      omega
    refine updF_right w2 ?_
    by_cases e : t = 4 * (j / 4) + (j % 4 + 1) % 4 ∧ f = 3 - (j % 4 + 1) % 4 % 2
    · exact .inr e
    · refine .inl (updF_right w1 ?_)
      by_cases e2 : t = j ∧ f = 3 - (j % 4 + 1) % 4 % 2
      · exact .inr e2
      · refine .inl (ih t f ⟨j', ?_, h2⟩)
        rcases Nat.lt_or_ge j' j with h3 | h3
        · exact h3
        · have : j' = j := by omega
          subst this
          rcases h2 with h2 | h2
          · exact absurd h2 e2
          · exact absurd h2 e
theorem glC_all (G : Dg) {n t f : Nat} (ht : t < 4 * n) (h2 : 2 ≤ f) (h4 : f < 4) : glC (4 * n) t f = some (outE G t f) := by
  refine glC_right G _ t f ?_
  by_cases e : f = 3 - (t % 4 + 1) % 4 % 2
  · exact ⟨t, ht, .inl ⟨rfl, e⟩⟩
  · refine ⟨4 * (t / 4) + (t % 4 + 3) % 4, by omega, .inr ⟨by omega, by omega⟩⟩
end Go.Proofs.Ytjlkndkedknocaa
namespace Go.Proofs.Ytjlkndkedknocaa
open Go Go.Ai
set_option linter.unusedSimpArgs false
set_option linter.unusedVariables false
attribute [local instance] Classical.propDecidable
theorem outE_own (G : Dg) {e o : Nat × Nat} (he : e.2 < 4) (ho : oth G e = o) : outE G (4 * e.1 + e.2) (e.2 % 2) = (4 * o.1 + (o.2 + 3) % 4, !decide (e.2 % 2 = o.2 % 2)) := by
  unfold outE
  rw [if_neg (by omega), show (4 * e.1 + e.2) % 4 = e.2 by omega, show (4 * e.1 + e.2) / 4 = e.1 by omega, if_pos rfl, show oth G (e.1, e.2) = o from ho]
theorem outE_next (G : Dg) {e o : Nat × Nat} (he : e.2 < 4) (ho : oth G e = o) : outE G (4 * e.1 + (e.2 + 3) % 4) (e.2 % 2) = (4 * o.1 + o.2, !decide (e.2 % 2 = o.2 % 2)) := by
  unfold outE
  rw [if_neg (by omega), show (4 * e.1 + (e.2 + 3) % 4) % 4 = (e.2 + 3) % 4 by omega, show (4 * e.1 + (e.2 + 3) % 4) / 4 = e.1 by omega, if_neg (by omega), show ((e.2 + 3) % 4 + 1) % 4 = e.2 by omega, show oth G (e.1, e.2) = o from ho]
/-- The faces of a place. -/
theorem plF_eq {t f : Nat} (h : f < 2) {e : Nat × Nat} (hp : plF t f = e) : (t = 4 * e.1 + e.2 ∧ f = e.2 % 2) ∨ (t = 4 * e.1 + (e.2 + 3) % 4 ∧ f = e.2 % 2) := by
  subst hp
  unfold plF
  by_cases c : f = t % 4 % 2
  · left
    simp only [if_pos c]
    omega
  · right
    simp only [if_neg c]
    omega
theorem decide_comm {a b : Nat} : decide (a = b) = decide (b = a) := by rw [decide_eq_decide]; exact eq_comm
theorem glA_right {G : Dg} (hG : GoodG G) : ∀ a, a ≤ 2 * G.n → ∀ t f, t < 4 * G.n → f < 4 → (2 ≤ f ∨ G.X (plF t f).1 (plF t f).2 < a) → glA G a t f = some (outE G t f) := by
  intro a
  induction a with
  | zero =>
    intro _ t f ht hf h
    rcases h with h | h
    · exact glC_all G ht h hf
    · omega
  | succ a ih =>
    intro ha t f ht hf h
    obtain ⟨t0, t1, t2, t3, x1, x2, hne⟩ := hG.T a (by omega)
    obtain ⟨e, he⟩ : ∃ e : Nat × Nat, e = (G.T a 0, G.T a 1) := ⟨_, rfl⟩
    obtain ⟨o, ho⟩ : ∃ o : Nat × Nat, o = (G.T a 2, G.T a 3) := ⟨_, rfl⟩
    have heo : oth G e = o := by
      rw [he, ho]; unfold oth
      simp only [x1, and_self, if_true]
    have hoe : oth G o = e := by
      rw [he, ho]; unfold oth
      simp only [x2]
      rw [if_neg hne]
    have he2 : e.2 < 4 := by rw [he]; exact t1
    have ho2 : o.2 < 4 := by rw [ho]; exact t3
    have a0 : alT G a 0 = 4 * e.1 + e.2 := by rw [he]; rfl
    have a1 : alT G a 1 = 4 * o.1 + (o.2 + 3) % 4 := by rw [ho]; rfl
    have a2 : alT G a 2 = 4 * e.1 + (e.2 + 3) % 4 := by rw [he]; rfl
    have a3 : alT G a 3 = 4 * o.1 + o.2 := by rw [ho]; rfl
    have b0 : alF G a 0 = e.2 % 2 := by rw [he]; rfl
    have b1 : alF G a 1 = o.2 % 2 := by rw [ho]; rfl
    have b2 : alF G a 2 = e.2 % 2 := by rw [he]; rfl
    have b3 : alF G a 3 = o.2 % 2 := by rw [ho]; rfl
    show joinF (joinF (glA G a) (alT G a 0) (alF G a 0) (alT G a 1) (alF G a 1) (!decide (alF G a 0 = alF G a 1))) (alT G a 2) (alF G a 2) (alT G a 3) (alF G a 3) (!decide (alF G a 2 = alF G a 3)) t f = _
    rw [a0, a1, a2, a3, b0, b1, b2, b3, joinF_eq, joinF_eq]
    have wA : some (4 * o.1 + (o.2 + 3) % 4, !decide (e.2 % 2 = o.2 % 2)) = some (outE G (4 * e.1 + e.2) (e.2 % 2)) := by rw [outE_own G he2 heo]
    have wB : some (4 * e.1 + e.2, !decide (e.2 % 2 = o.2 % 2)) = some (outE G (4 * o.1 + (o.2 + 3) % 4) (o.2 % 2)) := by rw [outE_next G ho2 hoe, decide_comm]
    have wC : some (4 * o.1 + o.2, !decide (e.2 % 2 = o.2 % 2)) = some (outE G (4 * e.1 + (e.2 + 3) % 4) (e.2 % 2)) := by rw [outE_next G he2 heo]
    have wD : some (4 * e.1 + (e.2 + 3) % 4, !decide (e.2 % 2 = o.2 % 2)) = some (outE G (4 * o.1 + o.2) (o.2 % 2)) := by rw [outE_own G ho2 hoe, decide_comm]
    refine updF_right wD ?_
    by_cases cD : t = 4 * o.1 + o.2 ∧ f = o.2 % 2
    · exact .inr cD
    refine .inl (updF_right wC ?_)
    by_cases cC : t = 4 * e.1 + (e.2 + 3) % 4 ∧ f = e.2 % 2
    · exact .inr cC
    refine .inl (updF_right wB ?_)
    by_cases cB : t = 4 * o.1 + (o.2 + 3) % 4 ∧ f = o.2 % 2
    · exact .inr cB
    refine .inl (updF_right wA ?_)
    by_cases cA : t = 4 * e.1 + e.2 ∧ f = e.2 % 2
    · exact .inr cA
    refine .inl (ih (by omega) t f ht hf ?_)
    rcases h with h | h
    · exact .inl h
    · by_cases h2 : 2 ≤ f
      · exact .inl h2
      · right
        rcases Nat.lt_or_ge (G.X (plF t f).1 (plF t f).2) a with h3 | h3
        · exact h3
        · exfalso
          have hXa : G.X (plF t f).1 (plF t f).2 = a := by omega
          have hp1 : (plF t f).1 < G.n := by show t / 4 < G.n; omega
          have hp2 : (plF t f).2 < 4 := by
            unfold plF
            simp only
            split <;> omega
          have hc := hG.cover _ _ hp1 hp2
          rw [hXa] at hc
          rcases hc with ⟨c1, c2⟩ | ⟨c1, c2⟩
          · rcases plF_eq (by omega) (show plF t f = e by rw [he]; exact Prod.ext c1 c2) with h4 | h4
            · exact cA h4
            · exact cC h4
          · rcases plF_eq (by omega) (show plF t f = o by rw [ho]; exact Prod.ext c1 c2) with h4 | h4
            · exact cD h4
            · exact cB h4
theorem outF_eq {G : Dg} (hG : GoodG G) {t f : Nat} (ht : t < 4 * G.n) (hf : f < 4) : outF G t f = some (outE G t f) := by
  refine glA_right hG _ (Nat.le_refl _) t f ht hf (.inr ?_)
  have hp1 : (plF t f).1 < G.n := by show t / 4 < G.n; omega
  have hp2 : (plF t f).2 < 4 := by
    unfold plF
    simp only
    split <;> omega
  exact hG.X _ _ hp1 hp2
theorem pm_lt (sw : Bool) {i : Nat} (hi : i < 4) : pm sw i < 4 := by
  cases sw <;> simp only [pm] <;> (repeat' split) <;> omega
theorem pm_pm (sw : Bool) (i : Nat) : pm sw (pm sw i) = i := by
  cases sw
  · rfl
  · unfold pm
    simp only [if_true]
    by_cases h0 : i = 0
    · simp [h0]
    · by_cases h1 : i = 1
      · simp [h1]
      · simp [h0, h1]
/-- The way back. -/
theorem outE_sym {G : Dg} (hG : GoodG G) {t f : Nat} (ht : t < 4 * G.n) (hf : f < 4) : (outE G t f).1 < 4 * G.n ∧ outE G (outE G t f).1 (pm (outE G t f).2 f) = (t, (outE G t f).2) := by
  by_cases h2 : 2 ≤ f
  · have hpm : pm false f = f := rfl
    unfold outE
    rw [if_pos h2]
    by_cases e : f = 3 - (t % 4 + 1) % 4 % 2
    · rw [if_pos e]
      simp only [hpm]
      refine ⟨by omega, ?_⟩
      rw [if_pos h2, if_neg (by omega)]
      refine Prod.ext ?_ rfl
      simp only
      omega
    · rw [if_neg e]
      simp only [hpm]
      refine ⟨by omega, ?_⟩
      rw [if_pos h2, if_pos (by omega)]
      refine Prod.ext ?_ rfl
      simp only
      omega
  · have hf2 : f < 2 := by omega
    obtain ⟨e, he⟩ : ∃ e, e = plF t f := ⟨_, rfl⟩
    have he1 : e.1 < G.n := by rw [he]; show t / 4 < G.n; omega
    have he2 : e.2 < 4 := by
      rw [he]; unfold plF
      simp only
      split <;> omega
    obtain ⟨o, ho⟩ : ∃ o, o = oth G e := ⟨_, rfl⟩
    have hos := oth_spec hG (hG.inV (x := e) he1 he2)
    have ho1 : o.1 < G.n := by rw [ho]; exact hos.1.1
    have ho2 : o.2 < 4 := by rw [ho]; exact hos.1.2.1
    have hoe : oth G o = e := by rw [ho]; exact hos.2.1
    have hpm : pm (!decide (e.2 % 2 = o.2 % 2)) (e.2 % 2) = o.2 % 2 := by
      by_cases c : e.2 % 2 = o.2 % 2
      · rw [decide_eq_true c]; exact c
      · rw [decide_eq_false c]
        unfold pm
        simp only [Bool.not_false, if_true]
        by_cases c0 : e.2 % 2 = 0
        · rw [if_pos c0]; omega
        · rw [if_neg c0, if_pos (by omega)]; omega
    rcases plF_eq hf2 he.symm with ⟨h3, h4⟩ | ⟨h3, h4⟩
    · rw [h3, h4, outE_own G he2 ho.symm]
      refine ⟨by simp only; omega, ?_⟩
      simp only [hpm]
      rw [outE_next G ho2 hoe, decide_comm]
    · rw [h3, h4, outE_next G he2 ho.symm]
      refine ⟨by simp only; omega, ?_⟩
      simp only [hpm]
      rw [outE_own G ho2 hoe, decide_comm]
theorem nbF_sym {G : Dg} (hG : GoodG G) {u f w : Nat} (hu : u < 16 * G.n) (hf : f < 4) (h : nbF (outF G) u f = some w) : w < 16 * G.n ∧ ∃ f', f' < 4 ∧ nbF (outF G) w f' = some u := by
  unfold nbF at h
  split at h
  · cases h
  · rename_i hne
    rw [outF_eq hG (by omega) hf] at h
    obtain ⟨s1, s2⟩ := outE_sym hG (t := u / 4) (f := f) (by omega) hf
    obtain rfl := Option.some.inj h
    simp only [fcT, fcP]
    have hp := pm_lt (outE G (u / 4) f).2 (i := u % 4) (Nat.mod_lt _ (by omega))
    have hpf := pm_lt (outE G (u / 4) f).2 hf
    refine ⟨by omega, pm (outE G (u / 4) f).2 f, hpf, ?_⟩
    unfold nbF
    have d1 : ((outE G (u / 4) f).1 * 4 + pm (outE G (u / 4) f).2 (u % 4)) % 4 = pm (outE G (u / 4) f).2 (u % 4) := by omega
    have d2 : ((outE G (u / 4) f).1 * 4 + pm (outE G (u / 4) f).2 (u % 4)) / 4 = (outE G (u / 4) f).1 := by omega
    rw [d1, d2, if_neg, outF_eq hG s1 hpf, s2]
    · simp only [fcT, fcP, pm_pm]
      congr 1
      omega
    · intro hc
      have := congrArg (pm (outE G (u / 4) f).2) hc
      rw [pm_pm, pm_pm] at this
      exact hne this
theorem VC_lt {G : Dg} (hG : GoodG G) {a b : Nat} (ha : a < 16 * G.n) (h : VC (nbF (outF G)) a b) : b < 16 * G.n := by
  induction h with
  | refl => exact ha
  | step f _ hf hw ih => exact (nbF_sym hG ih hf hw).1
theorem VC_symm {G : Dg} (hG : GoodG G) {a b : Nat} (ha : a < 16 * G.n) (h : VC (nbF (outF G)) a b) : VC (nbF (outF G)) b a := by
  induction h with
  | refl => exact .refl _
  | step f hab hf hw ih =>
    obtain ⟨_, f', hf', hw'⟩ := nbF_sym hG (VC_lt hG ha hab) hf hw
    exact ((VC.refl _).step f' hf' hw').trans ih
end Go.Proofs.Ytjlkndkedknocaa
namespace Go.Proofs.Ytjlkndkedknocaa
open Go Go.Ai
set_option linter.unusedSimpArgs false
set_option linter.unusedVariables false
attribute [local instance] Classical.propDecidable
theorem nx_at {G : Dg} (hG : GoodG G) {i q : Nat} (hi : i < G.n) (hq : q < 4) (ho : outB (G.s i) q = false) : nx G (G.X i q) = G.X i ((q + 2) % 4) := by
  have ha := hG.X i q hi hq
  obtain ⟨d1, d2⟩ := hG.dir _ ha
  rcases hG.cover i q hi hq with ⟨c1, c2⟩ | ⟨c1, c2⟩
  · rw [← c1, ← c2, ho] at d1; cases d1
  · unfold nx
    rw [← c1, ← c2]
theorem strand {G : Dg} (hG : GoodG G) {xs : List Int} {k : Nat} (hO : OrbI (2 * G.n) (nx G) (2 * G.n) k xs) {i q : Nat} (hi : i < G.n) (hq : q < 4) : nth xs (G.X i ((q + 2) % 4)) = nth xs (G.X i q) := by
  have hq2 : (q + 2) % 4 < 4 := Nat.mod_lt _ (by omega)
  have h1 := hG.X i q hi hq
  have h2 := hG.X i ((q + 2) % 4) hi hq2
  have hfl := outB_flip (hG.sign i hi) hq
  cases hb : outB (G.s i) q with
  | false => exact ((hO.rel _ _ h1 h2 (hO.done _ h1)).2 ⟨1, nx_at hG hi hq hb⟩).symm
  | true =>
    rw [hb] at hfl
    have := nx_at hG hi hq2 hfl
    rw [show ((q + 2) % 4 + 2) % 4 = q by omega] at this
    exact (hO.rel _ _ h2 h1 (hO.done _ h2)).2 ⟨1, this⟩
/-- The number at a vertex of a crossing. -/
def cval (G : Dg) (xs : List Int) (c v : Nat) : Int := match v with
  | 0 => nth xs (G.X c 1)
  | 1 => nth xs (G.X c 0)
  | i => 1 - i
theorem cuspV_eq (G : Dg) (xs : List Int) (u : Nat) : cuspV G xs u = cval G xs (u / 16) (u % 4) := rfl
theorem cval_place {G : Dg} (hG : GoodG G) {xs : List Int} {k : Nat} (hO : OrbI (2 * G.n) (nx G) (2 * G.n) k xs) {c q : Nat} (hc : c < G.n) (hq : q < 4) : cval G xs c (1 - q % 2) = nth xs (G.X c q) := by
  match q, hq with
  | 0, _ => rfl
  | 1, _ => rfl
  | 2, _ => exact (strand hG hO hc (q := 0) (by omega)).symm
  | 3, _ => exact (strand hG hO hc (q := 1) (by omega)).symm
theorem cval_big (G : Dg) (xs : List Int) (c d : Nat) {v : Nat} (h : 2 ≤ v) : cval G xs c v = cval G xs d v := by
  match v, h with
  | v + 2, _ => rfl
theorem cusp_step {G : Dg} (hG : GoodG G) {xs : List Int} {k : Nat} (hO : OrbI (2 * G.n) (nx G) (2 * G.n) k xs) {u f w : Nat} (hu : u < 16 * G.n) (hf : f < 4) (h : nbF (outF G) u f = some w) : cuspV G xs w = cuspV G xs u := by
  unfold nbF at h
  split at h
  · cases h
  · rename_i hne
    rw [outF_eq hG (by omega) hf] at h
    obtain rfl := Option.some.inj h
    simp only [fcT, fcP]
    have hp := pm_lt (outE G (u / 4) f).2 (i := u % 4) (Nat.mod_lt _ (by omega))
    rw [cuspV_eq, cuspV_eq, show ((outE G (u / 4) f).1 * 4 + pm (outE G (u / 4) f).2 (u % 4)) / 16 = (outE G (u / 4) f).1 / 4 by omega, show ((outE G (u / 4) f).1 * 4 + pm (outE G (u / 4) f).2 (u % 4)) % 4 = pm (outE G (u / 4) f).2 (u % 4) by omega]
    by_cases h2 : 2 ≤ f
    · have hc : (outE G (u / 4) f).1 / 4 = u / 16 ∧ (outE G (u / 4) f).2 = false := by
        unfold outE
        rw [if_pos h2]
        split
        · exact ⟨by simp only; omega, rfl⟩
        · exact ⟨by simp only; omega, rfl⟩
      rw [hc.1, hc.2]; rfl
    · have hf2 : f < 2 := by omega
      obtain ⟨e, he⟩ : ∃ e, e = plF (u / 4) f := ⟨_, rfl⟩
      have he1 : e.1 < G.n := by rw [he]; show u / 4 / 4 < G.n; omega
      have hec : e.1 = u / 16 := by rw [he]; show u / 4 / 4 = u / 16; omega
      have he2 : e.2 < 4 := by
        rw [he]; unfold plF
        simp only
        split <;> omega
      obtain ⟨o, ho⟩ : ∃ o, o = oth G e := ⟨_, rfl⟩
      have hos := oth_spec hG (hG.inV (x := e) he1 he2)
      rw [← ho] at hos
      have ho1 := hos.1.1
      have ho2 := hos.1.2.1
      have hval : (outE G (u / 4) f).1 / 4 = o.1 ∧ (outE G (u / 4) f).2 = !decide (e.2 % 2 = o.2 % 2) ∧ f = e.2 % 2 := by
        rcases plF_eq hf2 he.symm with ⟨h3, h4⟩ | ⟨h3, h4⟩
        · rw [h3, h4, outE_own G he2 ho.symm]
          exact ⟨by simp only; omega, rfl, rfl⟩
        · rw [h3, h4, outE_next G he2 ho.symm]
          exact ⟨by simp only; omega, rfl, rfl⟩
      obtain ⟨v1, v2, v3⟩ := hval
      rw [v1, v2, ← hec]
      by_cases hv : 2 ≤ u % 4
      · have : pm (!decide (e.2 % 2 = o.2 % 2)) (u % 4) = u % 4 := by
          unfold pm
          split
          · rw [if_neg (by omega), if_neg (by omega)]
          · rfl
        rw [this]
        exact cval_big _ _ _ _ hv
      · have hv1 : u % 4 = 1 - e.2 % 2 := by omega
        have hpv : pm (!decide (e.2 % 2 = o.2 % 2)) (u % 4) = 1 - o.2 % 2 := by
          by_cases c : e.2 % 2 = o.2 % 2
          · rw [decide_eq_true c]
            show u % 4 = _
            omega
          · rw [decide_eq_false c]
            unfold pm
            simp only [Bool.not_false, if_true]
            by_cases c0 : u % 4 = 0
            · rw [if_pos c0]; omega
            · rw [if_neg c0, if_pos (by omega)]; omega
        rw [hpv, hv1, cval_place hG hO ho1 ho2, cval_place hG hO he1 he2, hos.2.2]
theorem cusp_same {G : Dg} (hG : GoodG G) {xs : List Int} {k : Nat} (hO : OrbI (2 * G.n) (nx G) (2 * G.n) k xs) {u w : Nat} (hu : u < 16 * G.n) (h : VC (nbF (outF G)) u w) : cuspV G xs w = cuspV G xs u := by
  induction h with
  | refl => rfl
  | step f hab hf hw ih => rw [cusp_step hG hO (VC_lt hG hu hab) hf hw, ih]
/-- The first vertices have the numbers in turn. -/
theorem firstsV_numb {N k : Nat} {nb : Nat → Nat → Option Nat} {cls : Nat → Nat} (h : Numb N (VC nb) cls k) : ∀ v, v ≤ N → (∀ x, x < (firstsV nb v).length ↔ ∃ b, b < v ∧ cls b = x) ∧ ∀ j, j < (firstsV nb v).length → ∃ u, (firstsV nb v)[j]? = some u ∧ u < v ∧ cls u = j := by
  intro v
  induction v with
  | zero => intro _; exact ⟨fun x => by simp [firstsV], fun j hj => by simp [firstsV] at hj⟩
  | succ v ih =>
    intro hv
    obtain ⟨i1, i2⟩ := ih (by omega)
    by_cases hx : ∃ w, w < v ∧ VC nb w v
    · rw [firstsV_old hx]
      obtain ⟨w, w1, w2⟩ := hx
      have hcw : cls w = cls v := (h.rel w v (by omega) (by omega)).2 w2
      refine ⟨fun x => ?_, fun j hj => ?_⟩
      · rw [i1]
        constructor
        · rintro ⟨b, h1, h2⟩; exact ⟨b, by omega, h2⟩
        · rintro ⟨b, h1, h2⟩
          by_cases e : b = v
          · subst e; exact ⟨w, w1, by omega⟩
          · exact ⟨b, by omega, h2⟩
      · obtain ⟨u, u1, u2, u3⟩ := i2 j hj
        exact ⟨u, u1, by omega, u3⟩
    · rw [firstsV_new hx]
      have hb : ∀ b, b < v → ¬ VC nb v b := fun b hb hc => by
        have h1 := (h.rel v b (by omega) (by omega)).2 hc
        exact hx ⟨b, hb, (h.rel b v (by omega) (by omega)).1 h1.symm⟩
      have hbf := h.before (a := v) (by omega) hb
      have hcl : cls v = (firstsV nb v).length := by
        have e : ∀ x, x < cls v ↔ x < (firstsV nb v).length := fun x => by rw [hbf x, i1 x]
        have h1 := e (firstsV nb v).length
        have h2 := e (cls v)
        omega
      rw [List.length_append, List.length_singleton]
      refine ⟨fun x => ?_, fun j hj => ?_⟩
      · constructor
        · intro hx'
          by_cases e : x = (firstsV nb v).length
          · exact ⟨v, by omega, by omega⟩
          · obtain ⟨b, h1, h2⟩ := (i1 x).1 (by omega)
            exact ⟨b, by omega, h2⟩
        · rintro ⟨b, h1, h2⟩
          by_cases e : b = v
          · subst e; omega
          · have := (i1 x).2 ⟨b, by omega, h2⟩; omega
      · by_cases e : j = (firstsV nb v).length
        · exact ⟨v, by rw [List.getElem?_append_right (by omega), e, Nat.sub_self]; rfl, by omega, by omega⟩
        · obtain ⟨u, u1, u2, u3⟩ := i2 j (by omega)
          exact ⟨u, by rw [List.getElem?_append_left (by omega)]; exact u1, by omega, u3⟩
theorem cusp_list {G : Dg} {xs os : List Int} {k : Nat} {cls : Nat → Nat} (h : Numb (16 * G.n) (VC (nbF (outF G))) cls k) (hl : os.length = k) (hv : ∀ u, u < 16 * G.n → nth os (cls u) = cuspV G xs u) : os = cuspL G xs (16 * G.n) := by
  obtain ⟨i1, i2⟩ := firstsV_numb h _ (Nat.le_refl _)
  have hk : (firstsV (nbF (outF G)) (16 * G.n)).length = k := by
    have e : ∀ x, x < (firstsV (nbF (outF G)) (16 * G.n)).length ↔ x < k := fun x => by
      rw [i1]
      constructor
      · rintro ⟨b, h1, rfl⟩; exact h.lt b h1
      · intro hx
        obtain ⟨a, h1, h2, _⟩ := h.ord x hx
        exact ⟨a, h1, h2⟩
    have h1 := e k
    have h2 := e (firstsV (nbF (outF G)) (16 * G.n)).length
    omega
  refine List.ext_getElem? fun j => ?_
  unfold cuspL
  rw [List.getElem?_map]
  by_cases hj : j < k
  · obtain ⟨u, u1, u2, u3⟩ := i2 j (by omega)
    rw [u1]
    have := hv u u2
    rw [u3] at this
    rw [List.getElem?_eq_getElem (by omega)]
    simp only [Option.map_some, Option.some.injEq]
    rw [← this]
    simp [nth, show j < os.length by omega]
  · rw [List.getElem?_eq_none (by omega), List.getElem?_eq_none (by omega)]
    rfl
end Go.Proofs.Ytjlkndkedknocaa
namespace Go.Ai
set_option linter.unusedSimpArgs false
set_option linter.unusedVariables false
attribute [local instance] Classical.propDecidable
/-- Numbers given to the first i. -/
structure NumI (cls ys : List Int) (N i cnt : Nat) : Prop where
  len : ys.length = N
  val : ∀ a, a < i → 0 ≤ nth ys a ∧ nth ys a < cnt
  rel : ∀ a b, a < i → b < i → (nth ys a = nth ys b ↔ nth cls a = nth cls b)
  ord : ∀ j : Nat, j < cnt → ∃ a, a < i ∧ nth ys a = j ∧ ∀ b, b < a → nth ys b < j
/-- The search for an equal one before. -/
def NumJ (cls ys ys' : List Int) (i j : Nat) : Prop := ys'.length = ys.length ∧ (∀ a, a ≠ i → nth ys' a = nth ys a) ∧ ((nth ys' i = -1 ∧ ∀ j', j' < j → nth cls j' ≠ nth cls i) ∨ ∃ j0, j0 < i ∧ nth ys' i = nth ys j0 ∧ nth cls j0 = nth cls i)
theorem NumI.old {cls ys ys' : List Int} {N i cnt j0 : Nat} (h : NumI cls ys N i cnt) (hl : ys'.length = ys.length) (he : ∀ a, a ≠ i → nth ys' a = nth ys a) (hj : j0 < i) (h1 : nth ys' i = nth ys j0) (h2 : nth cls j0 = nth cls i) : NumI cls ys' N (i + 1) cnt := by
  have hv : ∀ a, a < i → nth ys' a = nth ys a := fun a ha => he a (by omega)
  refine ⟨by rw [hl, h.len], fun a ha => ?_, fun a b ha hb => ?_, fun j hj' => ?_⟩
  · by_cases e : a = i
    · rw [e, h1]; exact h.val _ hj
    · rw [hv a (by omega)]; exact h.val a (by omega)
  · by_cases ea : a = i
    · by_cases eb : b = i
      · rw [ea, eb]; simp
      · rw [ea, h1, hv b (by omega), h.rel _ _ hj (by omega), h2]
    · by_cases eb : b = i
      · rw [eb, h1, hv a (by omega), h.rel _ _ (by omega) hj, h2]
      · rw [hv a (by omega), hv b (by omega)]; exact h.rel a b (by omega) (by omega)
  · obtain ⟨a, a1, a2, a3⟩ := h.ord j hj'
    exact ⟨a, by omega, by rw [hv a a1]; exact a2, fun b hb => by rw [hv b (by omega)]; exact a3 b hb⟩
theorem NumI.new {cls ys ys' : List Int} {N i cnt : Nat} (h : NumI cls ys N i cnt) (hl : ys'.length = ys.length) (he : ∀ a, a ≠ i → nth ys' a = nth ys a) (h1 : nth ys' i = cnt) (h2 : ∀ j', j' < i → nth cls j' ≠ nth cls i) : NumI cls ys' N (i + 1) (cnt + 1) := by
  have hv : ∀ a, a < i → nth ys' a = nth ys a := fun a ha => he a (by omega)
  refine ⟨by rw [hl, h.len], fun a ha => ?_, fun a b ha hb => ?_, fun j hj' => ?_⟩
  · by_cases e : a = i
    · rw [e, h1]; omega
    · rw [hv a (by omega)]; have := h.val a (by omega); omega
  · by_cases ea : a = i
    · by_cases eb : b = i
      · rw [ea, eb]; simp
      · rw [ea, h1, hv b (by omega)]
        have := h.val b (by omega)
        constructor
        · intro e; omega
        · intro e; exact absurd e.symm (h2 b (by omega))
    · by_cases eb : b = i
      · rw [eb, h1, hv a (by omega)]
        have := h.val a (by omega)
        constructor
        · intro e; omega
        · intro e; exact absurd e (h2 a (by omega))
      · rw [hv a (by omega), hv b (by omega)]; exact h.rel a b (by omega) (by omega)
  · by_cases ej : j = cnt
    · refine ⟨i, by omega, by rw [h1, ej], fun b hb => ?_⟩
      rw [hv b hb, ej]; exact (h.val b hb).2
    · obtain ⟨a, a1, a2, a3⟩ := h.ord j (by omega)
      exact ⟨a, by omega, by rw [hv a a1]; exact a2, fun b hb => by rw [hv b (by omega)]; exact a3 b hb⟩
theorem NumI.numb {cls ys : List Int} {N cnt : Nat} (h : NumI cls ys N N cnt) : Numb N (fun a b => nth cls a = nth cls b) (fun a => (nth ys a).toNat) cnt := by
  refine ⟨fun a b ha hb => ?_, fun a ha => ?_, fun j hj => ?_⟩
  · rw [← h.rel a b ha hb]
    have h1 := h.val a ha
    have h2 := h.val b hb
    constructor
    · intro e; omega
    · intro e; rw [e]
  · have := h.val a ha; omega
  · obtain ⟨a, a1, a2, a3⟩ := h.ord j hj
    exact ⟨a, a1, by rw [a2]; rfl, fun b hb => by have := a3 b hb; have := h.val b (by omega); omega⟩
end Go.Ai
namespace Go.Proofs.Ytjlkndkedknocaa
open Go Go.Ai
set_option linter.unusedSimpArgs false
set_option linter.unusedVariables false
attribute [local instance] Classical.propDecidable
variable {E : Env} (hE : OE E)
include hE
theorem start_ {h0 : List O} {N : Nat} (hN : N ≤ 100000) :
    DC E 96 [.int .i64 N] ⟨h0, h0.length⟩ fun o st' => ∃ cls : List Int, o = .ret (.slice (some ⟨h0.length, 0, none⟩) N N) ∧ h0.length ≤ st'.fl ∧ Sub h0 st'.h ∧ AtB st'.h h0.length (.cells (intsC cls) 3 (some 0)) ∧ cls.length = N ∧ ∀ a, a < N → nth cls a = a := by
  refine hE.fnC (body := rb96) rfl ?_
  unfold rb96
  have e1 : (N : Int) * 8 ≤ 140737488355328 := by omega
  have e2 : (N : Int) < 4611686018427387904 := by omega
  simp [e1, e2]
  refine DW_loop (fun kk fr st => ∃ (i : Nat) (h : List O) (xs : List Int), i + kk = N ∧ st = ⟨h, h0.length⟩ ∧ Sub h0 h ∧ AtB h h0.length (.cells (intsC xs) 3 (some 0)) ∧ xs.length = N ∧ (∀ j, j < i → nth xs j = j) ∧ get fr 0 = .int .i64 N ∧ get fr 3 = .slice (some ⟨h0.length, 0, none⟩) N N ∧ get fr 4 = .int .i64 i) ?_ (k := N) ?_
  · rintro kk fr st ⟨i, h, xs, hik, rfl, hsub, hatB, hlen, hm, g0, g3, g4⟩
    have hat := hatB
    unfold AtB at hat
    by_cases hi : i < N
    · have hw : IntKind.i64.wrap ((i : Int) + 1) = (i : Int) + 1 := by rw [w64_id] <;> omega
      have hi2 : i < xs.length := by omega
      have hi3 : i + 1 ≤ N := by omega
      simp [g0, g3, g4, hi, wrN_def, hat, hlen, intsC_set, hw, hi3]
      refine ⟨kk - 1, by omega, i + 1, by omega, hsub.set (Nat.le_refl _) _, xs.set i i, set_self hat, by simp [hlen], fun j hj => ?_, by omega⟩
      rw [nth_set hi2]
      by_cases e : j = i
      · rw [if_pos e, e]
      · rw [if_neg e]; exact hm j (by omega)
    · have hin : i = N := by omega
      simp [g0, g3, g4, hi, endK_ret]
      unfold pairQ back
      rw [if_neg (by simp [Out.scalar, scalar, flat1, flat])]
      exact ⟨rfl, Nat.le_refl _, hsub, xs, hatB, hlen, fun a ha => hm a (by omega)⟩
  · refine ⟨0, _, List.replicate N 0, by omega, rfl, (Sub.refl h0).app _, ?_, by simp, fun j h => by omega, by simp⟩
    unfold AtB
    rw [app_at0]
    simp [rep, intsC]
theorem merged_ {h : List O} {b N : Nat} {cls : List Int} {s0 : Nat} (hb : h[b]? = some (.cells (intsC cls) 3 (some s0))) (hl : cls.length = N) (hN : N ≤ 100000) {u w : Nat} (hu : u < N) (hw : w < N) :
    DC E 98 [.slice (some ⟨b, 0, none⟩) N N, .int .i64 u, .int .i64 w] ⟨h, h.length⟩ fun o st' => ∃ cls' : List Int, o = .ret (.slice (some ⟨b, 0, none⟩) N N) ∧ b ≤ st'.fl ∧ st'.h.length = h.length ∧ (∀ (c : Nat) (o : O), h[c]? = some o → c ≠ b → st'.h[c]? = some o) ∧
      AtB st'.h b (.cells (intsC cls') 3 (some s0)) ∧ cls'.length = N ∧ ∀ a, a < N → nth cls' a = if nth cls a = max (nth cls u) (nth cls w) then min (nth cls u) (nth cls w) else nth cls a := by
  refine hE.fnC (body := rb98) rfl ?_
  unfold rb98
  have lb := (List.getElem?_eq_some_iff.1 hb).1
  have hu2 : u < cls.length := by omega
  have hw2 : w < cls.length := by omega
  obtain ⟨lo, hlo⟩ : ∃ lo, lo = min (nth cls u) (nth cls w) := ⟨_, rfl⟩
  obtain ⟨hi, hhi⟩ : ∃ hi, hi = max (nth cls u) (nth cls w) := ⟨_, rfl⟩
  simp [hu, hw, rd_def, hb, intsC_get hu2, intsC_get hw2, ← hlo, ← hhi]
  refine DW_loop (fun kk fr st => ∃ (i : Nat) (h' : List O) (f : Nat) (xs : List Int), i + kk = N ∧ st = ⟨h', f⟩ ∧ b ≤ f ∧ h'.length = h.length ∧ (∀ (c : Nat) (o : O), h[c]? = some o → c ≠ b → h'[c]? = some o) ∧ AtB h' b (.cells (intsC xs) 3 (some s0)) ∧ xs.length = N ∧ (∀ j, nth xs j = if j < i ∧ nth cls j = hi then lo else nth cls j) ∧ get fr 0 = .slice (some ⟨b, 0, none⟩) N N ∧ get fr 7 = .int .i64 lo ∧ get fr 8 = .int .i64 hi ∧ get fr 9 = .int .i64 i) ?_ (k := N) ?_
  · rintro kk fr st ⟨i, h', f, xs, hik, rfl, hf, hl', hk, hatB, hlen, hm, g0, g7, g8, g9⟩
    have hat := hatB
    unfold AtB at hat
    by_cases hiN : i < N
    · have hwi : IntKind.i64.wrap ((i : Int) + 1) = (i : Int) + 1 := by rw [w64_id] <;> omega
      have hi2 : i < xs.length := by omega
      have hi3 : i + 1 ≤ N := by omega
      have hxi : nth xs i = nth cls i := by rw [hm, if_neg (by omega)]
      by_cases hc : nth cls i = hi
      · have hc2 : nth xs i = hi := by omega
        simp [g0, g7, g8, g9, hiN, rd_def, wrN_def, hat, hlen, intsC_get hi2, hc2, intsC_set, hwi, hi3]
        refine ⟨kk - 1, by omega, i + 1, by omega, _, _, ⟨rfl, rfl⟩, by omega, by simp [hl'], fun c o hb hn => set_ne (hk c o hb hn) hn, xs.set i lo, set_self hat, by simp [hlen], fun j => ?_, by omega⟩
        rw [nth_set hi2]
        by_cases e : j = i
        · rw [if_pos e, if_pos ⟨by omega, by rw [e]; exact hc⟩]
        · rw [if_neg e, hm]
          by_cases h1 : j < i ∧ nth cls j = hi
          · rw [if_pos h1, if_pos ⟨by omega, h1.2⟩]
          · rw [if_neg h1, if_neg fun h2 => h1 ⟨by omega, h2.2⟩]
      · have hc2 : ¬ nth xs i = hi := by omega
        simp [g0, g7, g8, g9, hiN, rd_def, hat, hlen, intsC_get hi2, hc2, hwi]
        refine ⟨kk - 1, by omega, i + 1, by omega, _, _, ⟨rfl, rfl⟩, hf, hl', hk, xs, hatB, hlen, fun j => ?_, by omega⟩
        rw [hm]
        by_cases h1 : j < i ∧ nth cls j = hi
        · rw [if_pos h1, if_pos ⟨by omega, h1.2⟩]
        · rw [if_neg h1, if_neg fun h2 => h1 ⟨by
            rcases Nat.lt_or_ge j i with h3 | h3
            · exact h3
            · have : j = i := by omega
              rw [this] at h2; exact absurd h2.2 hc, h2.2⟩]
    · simp [g0, g7, g8, g9, hiN, endK_ret]
      unfold pairQ back
      rw [if_neg (by simp [Out.scalar, scalar, flat1, flat])]
      refine ⟨rfl, hf, hl', hk, xs, hatB, hlen, fun a ha => ?_⟩
      rw [hm]
      by_cases h1 : nth cls a = hi
      · rw [if_pos ⟨by omega, h1⟩, if_pos h1]
      · rw [if_neg (fun h2 => h1 h2.2), if_neg h1]
  · exact ⟨0, h, h.length, cls, by omega, rfl, by omega, rfl, fun c o hb _ => hb, hb, hl, fun j => by rw [if_neg (by omega)], by simp⟩
theorem numbered_ {h0 : List O} {b N : Nat} {cls : List Int} {s0 : Option Nat} (hb : h0[b]? = some (.cells (intsC cls) 3 s0)) (hl : cls.length = N) (hN : N ≤ 100000) :
    DC E 100 [.slice (some ⟨b, 0, none⟩) N N] ⟨h0, h0.length⟩ fun o st' => ∃ (ys : List Int) (cnt : Nat), o = .ret (.slice (some ⟨h0.length, 0, none⟩) N N) ∧ h0.length ≤ st'.fl ∧ Sub h0 st'.h ∧ AtB st'.h h0.length (.cells (intsC ys) 3 (some 0)) ∧ NumI cls ys N N cnt ∧ cnt ≤ N := by
  refine hE.fnC (body := rb100) rfl ?_
  unfold rb100
  have e1 : (N : Int) * 8 ≤ 140737488355328 := by omega
  have e2 : (N : Int) < 4611686018427387904 := by omega
  simp [e1, e2]
  refine DW_loop (fun kk fr st => ∃ (i : Nat) (h : List O) (ys : List Int) (cnt : Nat), i + kk = N ∧ st = ⟨h, h0.length⟩ ∧ Sub h0 h ∧ AtB h h0.length (.cells (intsC ys) 3 (some 0)) ∧ NumI cls ys N i cnt ∧ cnt ≤ i ∧ get fr 0 = .slice (some ⟨b, 0, none⟩) N N ∧ get fr 3 = .slice (some ⟨h0.length, 0, none⟩) N N ∧ get fr 4 = .int .i64 cnt ∧ get fr 5 = .int .i64 i) ?_ (k := N) ?_
  · rintro kk fr st ⟨i, h, ys, cnt, hik, rfl, hsub, hatB, hI, hcn, g0, g3, g4, g5⟩
    have hat := hatB
    unfold AtB at hat
    have hlen := hI.len
    by_cases hi : i < N
    · have hi2 : i < ys.length := by omega
      have hi3 : i + 1 ≤ N := by omega
      have hic : i < cls.length := by omega
      have hwi : IntKind.i64.wrap ((i : Int) + 1) = (i : Int) + 1 := by rw [w64_id] <;> omega
      have hwc : IntKind.i64.wrap ((cnt : Int) + 1) = (cnt : Int) + 1 := by rw [w64_id] <;> omega
      simp [g0, g3, g4, g5, hi, wrN_def, hat, hlen, intsC_set, hi3]
      refine DW_loop (fun kk' fr st => ∃ (j : Nat) (h : List O) (zs : List Int), j + kk' = i ∧ st = ⟨h, h0.length⟩ ∧ Sub h0 h ∧ AtB h h0.length (.cells (intsC zs) 3 (some 0)) ∧ NumJ cls ys zs i j ∧ get fr 0 = .slice (some ⟨b, 0, none⟩) N N ∧ get fr 3 = .slice (some ⟨h0.length, 0, none⟩) N N ∧ get fr 4 = .int .i64 cnt ∧ get fr 5 = .int .i64 i ∧ get fr 6 = .int .i64 j) ?_ (k := i) ?_
      · clear g0 g3 g4 g5 hsub hatB hat
        clear h
        rintro kk' fr st ⟨j, h, zs, hjk, rfl, hsub, hatB, hJ, g0, g3, g4, g5, g6⟩
        have hat := hatB
        unfold AtB at hat
        obtain ⟨j1, j2, j3⟩ := hJ
        have hiz : i < zs.length := by omega
        have hbh := hsub _ _ hb
        have hzl : zs.length = N := by omega
        by_cases hj : j < i
        · have hwj : IntKind.i64.wrap ((j : Int) + 1) = (j : Int) + 1 := by rw [w64_id] <;> omega
          have hjz : j < zs.length := by omega
          have hjc : j < cls.length := by omega
          have hjN : j < N := by omega
          rcases j3 with ⟨j3, j4⟩ | ⟨j0, k1, k2, k3⟩
          · by_cases he : nth cls j = nth cls i
            · simp [g0, g3, g4, g5, g6, hj, hi, hjN, rd_def, wrN_def, hat, hbh, intsC_get hiz, intsC_get hjz, intsC_get hjc, intsC_get hic, j3, he, intsC_set, hzl, hi3, hwj]
              refine ⟨kk' - 1, by omega, j + 1, by omega, hsub.set (Nat.le_refl _) _, zs.set i (nth zs j), set_self hat, ⟨by simp [j1], fun a ha => ?_, .inr ⟨j, hj, ?_, he⟩⟩, by omega⟩
              · rw [nth_set hiz, if_neg ha]; exact j2 a ha
              · rw [nth_set hiz, if_pos rfl]; exact j2 j (by omega)
            · simp [g0, g3, g4, g5, g6, hj, hi, hjN, rd_def, hat, hbh, intsC_get hiz, intsC_get hjc, intsC_get hic, j3, he, hwj]
              refine ⟨kk' - 1, by omega, j + 1, by omega, hsub, zs, hatB, ⟨j1, j2, .inl ⟨j3, fun j' hj' => ?_⟩⟩, by omega⟩
              by_cases e : j' = j
              · rw [e]; exact he
              · exact j4 j' (by omega)
          · have hv := hI.val j0 k1
            have hng : ¬ nth zs i < 0 := by omega
            simp [g0, g3, g4, g5, g6, hj, hi, rd_def, hat, intsC_get hiz, hng, hwi]
            exact ⟨kk - 1, by omega, i + 1, by omega, hsub, zs, hatB, cnt, hI.old j1 j2 k1 k2 k3, by omega, rfl, by omega⟩
        · have hji : j = i := by omega
          rcases j3 with ⟨j3, j4⟩ | ⟨j0, k1, k2, k3⟩
          · simp [g0, g3, g4, g5, g6, hj, hi, rd_def, wrN_def, hat, intsC_get hiz, j3, intsC_set, hzl, hi3, hwi, hwc]
            refine ⟨kk - 1, by omega, i + 1, by omega, hsub.set (Nat.le_refl _) _, zs.set i cnt, set_self hat, cnt + 1, hI.new (by simp [j1]) (fun a ha => ?_) ?_ (fun j' hj' => j4 j' (by omega)), by omega, by omega, by omega⟩
            · rw [nth_set hiz, if_neg ha]; exact j2 a ha
            · rw [nth_set hiz, if_pos rfl]
          · have hv := hI.val j0 k1
            have hng : ¬ nth zs i < 0 := by omega
            simp [g0, g3, g4, g5, g6, hj, hi, rd_def, hat, intsC_get hiz, hng, hwi]
            exact ⟨kk - 1, by omega, i + 1, by omega, hsub, zs, hatB, cnt, hI.old j1 j2 k1 k2 k3, by omega, rfl, by omega⟩
      · refine ⟨0, _, ys.set i (-1), by omega, rfl, hsub.set (Nat.le_refl _) _, set_self hat, ⟨by simp, fun a ha => by rw [nth_set hi2, if_neg ha], .inl ⟨by rw [nth_set hi2, if_pos rfl], fun j' hj' => by omega⟩⟩, by simp [g0, g3, g4, g5]⟩
    · have hin : i = N := by omega
      simp [g0, g3, g4, g5, hi, endK_ret]
      unfold pairQ back
      rw [if_neg (by simp [Out.scalar, scalar, flat1, flat])]
      rw [hin] at hI hcn
      exact ⟨rfl, Nat.le_refl _, hsub, ys, hatB, cnt, hI, hcn⟩
  · refine ⟨0, _, List.replicate N 0, 0, by omega, rfl, (Sub.refl h0).app _, ?_, ⟨by simp, fun a ha => by omega, fun a b ha => by omega, fun j hj => by omega⟩, by omega, by simp⟩
    unfold AtB
    rw [app_at0]
    simp [rep, intsC]
theorem countN_ {h : List O} {b N : Nat} {cls ys : List Int} {s0 : Option Nat} {cnt : Nat} (hb : h[b]? = some (.cells (intsC ys) 3 s0)) (hI : NumI cls ys N N cnt) (hc : cnt ≤ N) (hN : N ≤ 100000) :
    DR E 32 [.slice (some ⟨b, 0, none⟩) N N] ⟨h, h.length⟩ (.ret (.int .i64 cnt)) ⟨h, h.length⟩ := by
  refine hE.fn (body := rb32) rfl ?_
  unfold rb32
  have hlen := hI.len
  simp
  refine DW_loop (fun kk fr st => ∃ (i w : Nat), i + kk = N ∧ st = ⟨h, h.length⟩ ∧ (∀ j, j < i → nth ys j + 1 ≤ w) ∧ w ≤ cnt ∧ get fr 0 = .slice (some ⟨b, 0, none⟩) N N ∧ get fr 3 = .int .i64 w ∧ get fr 4 = .int .i64 i) ?_ (k := N) ?_
  · rintro kk fr st ⟨i, w, hik, rfl, hw, hwk, g0, g3, g4⟩
    by_cases hi : i < N
    · have hwr : IntKind.i64.wrap ((i : Int) + 1) = (i : Int) + 1 := by rw [w64_id] <;> omega
      have hi2 : i < ys.length := by omega
      have hv := hI.val i hi
      have hwr2 : IntKind.i64.wrap (nth ys i + 1) = nth ys i + 1 := by rw [w64_id] <;> omega
      simp [g0, g3, g4, hi, rd_def, hb, intsC_get hi2, hwr, hwr2]
      refine ⟨kk - 1, by omega, i + 1, by omega, max w ((nth ys i).toNat + 1), fun j hj => ?_, by omega, by omega, by omega⟩
      by_cases e : j = i
      · rw [e]; omega
      · have := hw j (by omega); omega
    · have hwk2 : w = cnt := by
        apply Classical.byContradiction
        intro hne
        obtain ⟨a', ha1, ha2, _⟩ := hI.ord w (by omega)
        have := hw a' (by omega)
        omega
      subst hwk2
      simp [g0, g3, g4, hi]
  · exact ⟨0, 0, by omega, rfl, fun j hj => by omega, by omega, by simp⟩
end Go.Proofs.Ytjlkndkedknocaa
namespace Go.Proofs.Ytjlkndkedknocaa
open Go Go.Ai
set_option linter.unusedSimpArgs false
set_option linter.unusedVariables false
attribute [local instance] Classical.propDecidable
theorem FacesC.face {cs : List Value} {N : Nat} {F : Nat → Nat → Option (Nat × Bool)} (h : FacesC cs N F) {t f : Nat} (ht : t < N) (hf : f < 4) : (cs.drop (t * 20 + f * 5)).take 5 = fcC (F t f) := by
  have hl := h.1
  refine List.ext_getElem? fun j => ?_
  by_cases hj : j < 5
  · rw [List.getElem?_take_of_lt hj, List.getElem?_drop]
    exact h.2 t f ht hf j hj
  · rw [List.getElem?_eq_none (by simp; omega), List.getElem?_eq_none (by rw [fcC_len]; omega)]
theorem fcC_get0 (x : Option (Nat × Bool)) : (fcC x)[0]? = some (.int .i64 (fcT x)) := by rw [fcC_eq]; rfl
theorem fcC_getP (x : Option (Nat × Bool)) {v : Nat} (hv : v < 4) : (fcC x)[1 + v]? = some (.int .i64 (fcP x v)) := by
  rw [fcC_eq]
  match v, hv with
  | 0, _ => rfl
  | 1, _ => rfl
  | 2, _ => rfl
  | 3, _ => rfl
/-- The classes under way. -/
structure ClI (G : Dg) (J : Nat) (cls : List Int) : Prop where
  len : cls.length = 16 * G.n
  sound : ∀ a b, a < 16 * G.n → b < 16 * G.n → nth cls a = nth cls b → VC (nbF (outF G)) a b
  comp : ∀ t f v w, t < 4 * G.n → f < 4 → v < 4 → (t * 4 + f) * 4 + v < J → nbF (outF G) (4 * t + v) f = some w → nth cls (4 * t + v) = nth cls w
theorem ClI.skip {G : Dg} {t f v : Nat} {cls : List Int} (h : ClI G ((t * 4 + f) * 4 + v) cls) (hf : f < 4) (hv : v < 4) (hn : nbF (outF G) (4 * t + v) f = none) : ClI G ((t * 4 + f) * 4 + (v + 1)) cls := by
  refine ⟨h.len, h.sound, fun t' f' v' w h1 h2 h3 h4 h5 => ?_⟩
  by_cases e : (t' * 4 + f') * 4 + v' = (t * 4 + f) * 4 + v
  · have e1 : t' = t := by omega
    have e2 : f' = f := by omega
    have e3 : v' = v := by omega
    rw [e1, e2, e3, hn] at h5; cases h5
  · exact h.comp t' f' v' w h1 h2 h3 (by omega) h5
theorem ClI.merge {G : Dg} (hG : GoodG G) {t f v w : Nat} {cls cls' : List Int} (h : ClI G ((t * 4 + f) * 4 + v) cls) (ht : t < 4 * G.n) (hf : f < 4) (hv : v < 4) (hw : nbF (outF G) (4 * t + v) f = some w) (hl : cls'.length = 16 * G.n)
    (hc : ∀ a, a < 16 * G.n → nth cls' a = if nth cls a = max (nth cls (4 * t + v)) (nth cls w) then min (nth cls (4 * t + v)) (nth cls w) else nth cls a) : ClI G ((t * 4 + f) * 4 + (v + 1)) cls' := by
  have hu : 4 * t + v < 16 * G.n := by omega
  have hwN := (nbF_sym hG hu hf hw).1
  obtain ⟨u, hue⟩ : ∃ u, u = 4 * t + v := ⟨_, rfl⟩
  rw [← hue] at hu hw hc
  have hV : VC (nbF (outF G)) u w := (VC.refl _).step f hf hw
  have hV' := VC_symm hG hu hV
  refine ⟨hl, fun a b ha hb he => ?_, fun t' f' v' w' h1 h2 h3 h4 h5 => ?_⟩
  · rw [hc a ha, hc b hb] at he
    have toU : ∀ a, a < 16 * G.n → nth cls a = nth cls u ∨ nth cls a = nth cls w → VC (nbF (outF G)) a u := fun a ha h0 => by
      rcases h0 with h0 | h0
      · exact h.sound a u ha hu h0
      · exact (h.sound a w ha hwN h0).trans hV'
    by_cases c1 : nth cls a = max (nth cls u) (nth cls w)
    · rw [if_pos c1] at he
      by_cases c2 : nth cls b = max (nth cls u) (nth cls w)
      · exact h.sound a b ha hb (by omega)
      · rw [if_neg c2] at he
        exact (toU a ha (by omega)).trans (VC_symm hG hb (toU b hb (by omega)))
    · rw [if_neg c1] at he
      by_cases c2 : nth cls b = max (nth cls u) (nth cls w)
      · rw [if_pos c2] at he
        exact (toU a ha (by omega)).trans (VC_symm hG hb (toU b hb (by omega)))
      · rw [if_neg c2] at he
        exact h.sound a b ha hb he
  · have hu' : 4 * t' + v' < 16 * G.n := by omega
    have hw' := (nbF_sym hG hu' h2 h5).1
    by_cases e : (t' * 4 + f') * 4 + v' = (t * 4 + f) * 4 + v
    · have e1 : t' = t := by omega
      have e2 : f' = f := by omega
      have e3 : v' = v := by omega
      subst e1 e2 e3
      rw [← hue] at h5 hu' ⊢
      rw [hw] at h5
      obtain rfl := Option.some.inj h5
      rw [hc u hu, hc w hwN]
      split <;> split <;> omega
    · rw [hc _ hu', hc _ hw', h.comp t' f' v' w' h1 h2 h3 (by omega) h5]
theorem ClI.fin {G : Dg} (hG : GoodG G) {cls : List Int} (h : ClI G (64 * G.n) cls) {a b : Nat} (ha : a < 16 * G.n) (hb : b < 16 * G.n) : nth cls a = nth cls b ↔ VC (nbF (outF G)) a b := by
  refine ⟨h.sound a b ha hb, fun hV => ?_⟩
  have key : ∀ c, VC (nbF (outF G)) a c → nth cls a = nth cls c := by
    intro c hc
    induction hc with
    | refl => rfl
    | @step d w f hab hf hw ih =>
      have hd := VC_lt hG ha hab
      rw [ih]
      have := h.comp (d / 4) f (d % 4) w (by omega) hf (Nat.mod_lt _ (by omega)) (by omega)
      rw [show 4 * (d / 4) + d % 4 = d by omega] at this
      exact this hw
  exact key b hV
end Go.Proofs.Ytjlkndkedknocaa
namespace Go.Proofs.Ytjlkndkedknocaa
open Go Go.Ai
set_option linter.unusedSimpArgs false
set_option linter.unusedVariables false
attribute [local instance] Classical.propDecidable
variable {E : Env} (hE : OE E)
include hE
theorem vertexClasses_ {h0 : List O} {fb : Nat} {cs : List Value} {s0 : Option Nat} {G : Dg} (hG : GoodG G) (hfb : h0[fb]? = some (.cells cs 100 s0)) (hF : FacesC cs (4 * G.n) (outF G)) (hn : 0 < G.n) :
    DC E 89 [.agg #[.slice (some ⟨fb, 0, none⟩) (4 * G.n) (4 * G.n)]] ⟨h0, h0.length⟩ fun o st' => ∃ (b : Nat) (cls ys : List Int) (cnt : Nat), o = .ret (.slice (some ⟨b, 0, none⟩) (16 * G.n) (16 * G.n)) ∧ h0.length ≤ b ∧ h0.length ≤ st'.fl ∧ Sub h0 st'.h ∧ AtB st'.h b (.cells (intsC ys) 3 (some 0)) ∧
      NumI cls ys (16 * G.n) (16 * G.n) cnt ∧ cnt ≤ 16 * G.n ∧ ∀ a b, a < 16 * G.n → b < 16 * G.n → (nth cls a = nth cls b ↔ VC (nbF (outF G)) a b) := by
  refine hE.fnC (body := rb89) rfl ?_
  unfold rb89
  have hsz := hG.size
  obtain ⟨M, hM⟩ : ∃ M, M = 4 * G.n := ⟨_, rfl⟩
  obtain ⟨N, hN⟩ : ∃ N, N = 16 * G.n := ⟨_, rfl⟩
  rw [← hM] at hF
  rw [← hM, ← hN]
  obtain ⟨hB, hhB⟩ : ∃ H, H = h0 ++ [O.cells [.slice (some ⟨fb, 0, none⟩) M M] 29 (some 0)] := ⟨_, rfl⟩
  have lB : hB.length = h0.length + 1 := by rw [hhB]; simp
  have sB : Sub h0 hB := by rw [hhB]; exact (Sub.refl _).app _
  have bB : hB[h0.length]? = some (O.cells [.slice (some ⟨fb, 0, none⟩) M M] 29 (some 0)) := by rw [hhB, app_at0]; rfl
  have fB := sB _ _ hfb
  have w1 : IntKind.i64.wrap (4 * (M : Int)) = N := by rw [w64_id] <;> omega
  have hst := start_ hE (h0 := hB) (N := N) (by omega)
  simp [rd_at0, w1]
  rw [← hhB, ← lB]
  refine hst.imp ?_
  rintro o ⟨h1, f1⟩ ⟨cls0, rfl, hf1, hs1, hat1, hl1, hc1⟩
  simp only at hf1 hs1 hat1
  obtain ⟨m, hm⟩ : ∃ m, m = hB.length := ⟨_, rfl⟩
  rw [← hm] at hat1 hf1 lB ⊢
  have hCl0 : ClI G 0 cls0 := ⟨by omega, fun a b ha hb e => by
    rw [hc1 a (by omega), hc1 b (by omega)] at e
    rw [show a = b by omega]
    exact .refl _, fun t f v w _ _ _ h => by omega⟩
  have hjo1 : joined ⟨hB, h0.length⟩ ⟨h1, f1⟩ = ⟨h1, h0.length⟩ := joined_fl (by simp only; omega)
  simp [hjo1]
  refine DW_loop (fun kk fr st => ∃ (t : Nat) (h : List O) (cls : List Int), t + kk = M ∧ st = ⟨h, h0.length⟩ ∧ Sub hB h ∧ AtB h m (.cells (intsC cls) 3 (some 0)) ∧ ClI G (t * 16) cls ∧ get fr 1 = .pointer (some ⟨h0.length, 0, none⟩) ∧ get fr 3 = .slice (some ⟨m, 0, none⟩) N N ∧ get fr 4 = .int .i64 t) ?_ (k := M) ?_
  · rintro kk fr st ⟨t, h, cls, htk, rfl, hsub, hat, hCl, g1, g3, g4⟩
    have hb := hsub _ _ bB
    by_cases ht : t < M
    · simp [g1, g3, g4, rd_def, hb, ht]
      refine DW_loop (fun kk' fr st => ∃ (f : Nat) (h : List O) (cls : List Int), f + kk' = 4 ∧ st = ⟨h, h0.length⟩ ∧ Sub hB h ∧ AtB h m (.cells (intsC cls) 3 (some 0)) ∧ ClI G ((t * 4 + f) * 4) cls ∧ get fr 1 = .pointer (some ⟨h0.length, 0, none⟩) ∧ get fr 3 = .slice (some ⟨m, 0, none⟩) N N ∧ get fr 4 = .int .i64 t ∧ get fr 5 = .int .i64 f) ?_ (k := 4) ?_
      · clear g1 g3 g4 hsub hat hCl hb
        clear h cls
        rintro kk' fr st ⟨f, h, cls, hfk, rfl, hsub, hat, hCl, g1, g3, g4, g5⟩
        have hb := hsub _ _ bB
        have hfbh := hsub _ _ fB
        have hwt : IntKind.i64.wrap ((t : Int) + 1) = (t : Int) + 1 := by rw [w64_id] <;> omega
        have hwf : IntKind.i64.wrap ((f : Int) + 1) = (f : Int) + 1 := by rw [w64_id] <;> omega
        by_cases hf : f < 4
        · have hf' : (f : Int) < 4 := by omega
          have hface := hF.face ht hf
          have hcl := hF.1
          have hb5 : t * 20 + f * 5 + 5 ≤ cs.length := by omega
          obtain ⟨x, hx⟩ : ∃ x, x = outF G t f := ⟨_, rfl⟩
          rw [← hx] at hface
          have hPv : ∀ v, v < 4 → [Value.int .i64 (fcT x), .int .i64 (fcP x 0), .int .i64 (fcP x 1), .int .i64 (fcP x 2), .int .i64 (fcP x 3)][1 + v]? = some (.int .i64 (fcP x v)) := fun v hv => by rw [← fcC_eq]; exact fcC_getP x hv
          rw [fcC_eq] at hface
          obtain ⟨h2, hh2⟩ : ∃ H, H = h ++ [O.cells [Value.int .i64 (fcT x), .int .i64 (fcP x 0), .int .i64 (fcP x 1), .int .i64 (fcP x 2), .int .i64 (fcP x 3)] 99 (some 0)] := ⟨_, rfl⟩
          have s2 : Sub h h2 := by rw [hh2]; exact (Sub.refl _).app _
          have b2 : h2[h.length]? = some (O.cells [Value.int .i64 (fcT x), .int .i64 (fcP x 0), .int .i64 (fcP x 1), .int .i64 (fcP x 2), .int .i64 (fcP x 3)] 99 (some 0)) := by rw [hh2, app_at0]; rfl
          have hsl := hsub.len
          have hmin : min h0.length h.length = h0.length := by omega
          have lmh := (List.getElem?_eq_some_iff.1 hat).1
          have hxlt : fcT x < M := by rw [hx, hM]; exact outF_lt hG hn t f
          simp [g1, g3, g4, g5, hf', rd_def, rdN_def, hb, ht, hfbh, hb5, hface, wrN_at0, set_at0, hmin]
          rw [← hh2]
          refine DW_loop (fun kk2 fr st => ∃ (v : Nat) (h3 : List O) (cls : List Int), v + kk2 = 4 ∧ st = ⟨h3, h0.length⟩ ∧ (h3.length = h2.length ∧ ∀ (b : Nat) (o : O), h2[b]? = some o → b ≠ m → h3[b]? = some o) ∧ AtB h3 m (.cells (intsC cls) 3 (some 0)) ∧ ClI G ((t * 4 + f) * 4 + v) cls ∧ get fr 1 = .pointer (some ⟨h0.length, 0, none⟩) ∧ get fr 3 = .slice (some ⟨m, 0, none⟩) N N ∧ get fr 4 = .int .i64 t ∧ get fr 5 = .int .i64 f ∧ get fr 6 = .pointer (some ⟨h.length, 0, none⟩) ∧ get fr 7 = .int .i64 v) ?_ (k := 4) ?_
          · clear g1 g3 g4 g5 hCl hat
            clear cls
            rintro kk2 fr st ⟨v, h3, cls, hvk, rfl, ⟨hl3, hk3⟩, hat, hCl, g1, g3, g4, g5, g6, g7⟩
            have hat' := hat
            unfold AtB at hat'
            have b3 := hk3 _ _ b2 (by omega)
            have hwv : IntKind.i64.wrap ((v : Int) + 1) = (v : Int) + 1 := by rw [w64_id] <;> omega
            by_cases hv : v < 4
            · have hv' : (v : Int) < 4 := by omega
              by_cases hvf : v = f
              · have hno : nbF (outF G) (4 * t + v) f = none := by
                  unfold nbF
                  rw [if_pos (by omega)]
                subst hvf
                simp [g1, g3, g4, g5, g6, g7, hv', rd_def, b3, hwv]
                exact ⟨kk2 - 1, by omega, v + 1, by omega, ⟨hl3, hk3⟩, cls, hat, hCl.skip hv hv hno, by omega⟩
              · have hvf' : ¬ (v : Int) = f := by omega
                obtain ⟨u, hu⟩ : ∃ u, u = 4 * t + v := ⟨_, rfl⟩
                obtain ⟨w, hw⟩ : ∃ w, w = 4 * fcT x + fcP x v := ⟨_, rfl⟩
                have hPlt := fcP_lt x hv
                have hnw : nbF (outF G) (4 * t + v) f = some w := by
                  unfold nbF
                  rw [if_neg (by omega), show (4 * t + v) / 4 = t by omega, show (4 * t + v) % 4 = v by omega, ← hx, hw]
                  congr 1; omega
                have w1' : IntKind.i64.wrap (4 * (t : Int)) = 4 * (t : Int) := by rw [w64_id] <;> omega
                have w2' : IntKind.i64.wrap (4 * (t : Int) + v) = u := by rw [w64_id] <;> omega
                have w3' : IntKind.i64.wrap (4 * (fcT x : Int)) = 4 * (fcT x : Int) := by rw [w64_id] <;> omega
                have w4' : IntKind.i64.wrap (4 * (fcT x : Int) + fcP x v) = w := by rw [w64_id] <;> omega
                have hpv := hPv v hv
                have hmg := merged_ hE (N := N) (u := u) (w := w) hat' (by rw [hCl.len, hN]) (by omega) (by omega) (by omega)
                simp [g1, g3, g4, g5, g6, g7, hv', hvf, hvf', rd_def, b3, hwv, hpv, w1', w2', w3', w4']
                refine hmg.imp ?_
                rintro o ⟨h4, f4⟩ ⟨cls', rfl, hf4, hl4, hk4, hat4, hlen4, hc4⟩
                simp only at hf4 hl4 hk4 hat4
                have hjo : joined ⟨h3, h0.length⟩ ⟨h4, f4⟩ = ⟨h4, h0.length⟩ := by
                  simp only [joined]
                  split
                  · congr 1; omega
                  · rfl
                simp [hjo, g1, g4, g5, g6, g7, hwv]
                refine ⟨⟨fun h => absurd h (by decide), fun h => absurd h (by decide)⟩, kk2 - 1, by omega, v + 1, by omega, ⟨by omega, fun b o hb hn => hk4 _ _ (hk3 _ _ hb hn) hn⟩, cls', hat4, hCl.merge hG (by omega) hf hv hnw (by omega) (fun a ha => ?_), by omega⟩
                rw [← hu]
                exact hc4 a (by omega)
            · have hv4 : v = 4 := by omega
              subst hv4
              simp [g1, g3, g4, g5, g6, g7, hwf]
              refine ⟨kk' - 1, by omega, f + 1, by omega, fun b o hb => hk3 b o (s2 b o (hsub b o hb)) ?_, cls, hat, by rw [show (t * 4 + (f + 1)) * 4 = (t * 4 + f) * 4 + 4 by omega]; exact hCl, by omega⟩
              have := (List.getElem?_eq_some_iff.1 hb).1
              omega
          · exact ⟨0, h2, cls, by omega, rfl, ⟨rfl, fun b o hb _ => hb⟩, s2 _ _ hat, hCl, by simp [g1, g3, g4, g5]⟩
        · have hf4 : f = 4 := by omega
          subst hf4
          simp [g1, g3, g4, g5, hwt]
          exact ⟨kk - 1, by omega, t + 1, by omega, hsub, cls, hat, by rw [show (t + 1) * 16 = (t * 4 + 4) * 4 by omega]; exact hCl, by omega⟩
      · exact ⟨0, h, cls, by omega, rfl, hsub, hat, by rw [show (t * 4 + 0) * 4 = t * 16 by omega]; exact hCl, by simp [g1, g3, g4]⟩
    · have htM : t * 16 = 64 * G.n := by omega
      rw [htM] at hCl
      have hnum := numbered_ hE hat (N := N) (by rw [hCl.len, hN]) (by omega)
      simp [g1, g3, g4, rd_def, hb, ht]
      refine hnum.imp ?_
      rintro o ⟨h3, f3⟩ ⟨ys, cnt, rfl, hf3, hs3, hat3, hI, hcnt⟩
      simp only at hf3 hs3 hat3
      have hsl := hsub.len
      simp [joined_fl, hf3, endK_ret]
      unfold pairQ back
      rw [if_neg (by simp [Out.scalar, scalar, flat1, flat])]
      exact ⟨h.length, rfl, by omega, Nat.le_refl _, sB.trans (hsub.trans hs3), cls, ys, hat3, cnt, hI, hcnt, fun a b ha hb' => hCl.fin hG (by omega) (by omega)⟩
  · exact ⟨0, h1, cls0, by omega, rfl, hs1, hat1, hCl0, by simp⟩
end Go.Proofs.Ytjlkndkedknocaa
namespace Go.Proofs.Ytjlkndkedknocaa
open Go Go.Ai
set_option linter.unusedSimpArgs false
set_option linter.unusedVariables false
attribute [local instance] Classical.propDecidable
theorem OrbI.same {N k k' : Nat} {f : Nat → Nat} {xs xs' : List Int} (h : OrbI N f N k xs) (h' : OrbI N f N k' xs') : xs = xs' := by
  have hu := (h.numb.unique h'.numb).1
  refine List.ext_getElem? fun j => ?_
  have l1 := h.len
  have l2 := h'.len
  by_cases hj : j < N
  · have e := hu j hj
    have d1 := h.done j hj
    have d2 := h'.done j hj
    have : nth xs j = nth xs' j := by omega
    rw [List.getElem?_eq_getElem (by omega), List.getElem?_eq_getElem (by omega)]
    simp [nth, show j < xs.length by omega, show j < xs'.length by omega] at this
    rw [this]
  · rw [List.getElem?_eq_none (by omega), List.getElem?_eq_none (by omega)]
/-- The list of numbers under way. -/
structure OsI (G : Dg) (xs ys : List Int) (cnt J : Nat) (os : List Int) : Prop where
  len : os.length = cnt
  val : ∀ u, u < J → nth os (nth ys u).toNat = cuspV G xs u
theorem OsI.step {G : Dg} (hG : GoodG G) {xs cls ys os : List Int} {k cnt J : Nat} (hO : OrbI (2 * G.n) (nx G) (2 * G.n) k xs) (hI : NumI cls ys (16 * G.n) (16 * G.n) cnt) (hV : ∀ a b, a < 16 * G.n → b < 16 * G.n → (nth cls a = nth cls b ↔ VC (nbF (outF G)) a b))
    (h : OsI G xs ys cnt J os) (hJ : J < 16 * G.n) {v : Int} (hv : v = cuspV G xs J) : OsI G xs ys cnt (J + 1) (os.set (nth ys J).toNat v) := by
  have hb := hI.val J hJ
  refine ⟨by simp [h.len], fun u hu => ?_⟩
  rw [nth_set (by rw [h.len]; omega)]
  by_cases e : (nth ys u).toNat = (nth ys J).toNat
  · rw [if_pos e, hv]
    have hub := hI.val u (by omega)
    have h1 : nth ys u = nth ys J := by omega
    have h2 := (hV u J (by omega) hJ).1 ((hI.rel u J (by omega) hJ).1 h1)
    exact cusp_same hG hO (by omega) h2
  · rw [if_neg e]
    by_cases e2 : u = J
    · rw [e2] at e; exact absurd rfl e
    · exact h.val u (by omega)
variable {E : Env} (hE : OE E)
include hE
omit hE in
theorem back_pair {h0 h : List O} {e : Int} (hk : e ≠ 0) : pairQ (back ⟨h0, h0.length⟩ (.ret (.tuple #[.slice none 0 0, .int .i64 e])) ⟨h, h0.length⟩) fun o st' => o = .ret (.tuple #[.slice none 0 0, .int .i64 e]) ∧ st' = ⟨h0, h0.length⟩ := by
  unfold pairQ
  rw [back_scalar (by simp [Out.scalar, scalar, flat1, flat]) (Nat.le_refl _)]
  exact ⟨rfl, rfl⟩
theorem CuspsR_ {h0 : List O} {a : Option Addr} {n c : Nat} {x : Nat → Nat → Int} {s : Nat → Int} {L : Int} (hx : CrossP h0 a n x s) :
    DC E 22 [dV a n c L] ⟨h0, h0.length⟩ fun o st' =>
      (askD n x s L ≠ 0 ∧ o = .ret (.tuple #[.slice none 0 0, .int .i64 (askD n x s L)]) ∧ st' = ⟨h0, h0.length⟩) ∨
      (askD n x s L = 0 ∧ ∃ (xs : List Int) (k b cnt : Nat), OrbI (2 * n) (nx (dgOf n x s L)) (2 * n) k xs ∧ o = .ret (.tuple #[.slice (some ⟨b, 0, none⟩) cnt cnt, .int .i64 0]) ∧ h0.length ≤ b ∧ h0.length ≤ st'.fl ∧ Sub h0 st'.h ∧
        AtB st'.h b (.cells (intsC (cuspL (dgOf n x s L) xs (16 * n))) 3 (some 0)) ∧ (cuspL (dgOf n x s L) xs (16 * n)).length = cnt) := by
  refine hE.fnC (body := rb22) rfl ?_
  unfold rb22
  obtain ⟨hB, hhB⟩ : ∃ H, H = h0 ++ [O.cells [.slice a n c, .int .i64 L] 24 (some 0)] := ⟨_, rfl⟩
  have hBs : Sub h0 hB := by rw [hhB]; exact (Sub.refl _).app _
  have lB : hB.length = h0.length + 1 := by rw [hhB]; simp
  have bB : hB[h0.length]? = some (O.cells [.slice a n c, .int .i64 L] 24 (some 0)) := by rw [hhB, app_at0]; rfl
  have hout := OutsideR_ hE (c := c) (L := L) (hx.sub hBs)
  simp only [dV] at hout
  simp [dV, ← hhB, rdN_def, bB]
  refine hout.imp ?_
  rintro o ⟨h1, f1⟩ (⟨hk, rfl, hst⟩ | ⟨hk, fb, rfl, lfb, hf1, hs1, cs, hat1, hF⟩)
  · simp only [St.mk.injEq] at hst
    obtain ⟨rfl, rfl⟩ := hst
    have hmin : min h0.length h1.length = h0.length := by omega
    simp [joined_fl, hk, wrN_at0, set_at0, rdN_at0, hmin]
    exact back_pair hk
  · obtain ⟨hS, hn, hsz⟩ := ask_pos hk
    simp only at hf1 hs1 hat1
    have hG := good_of hS
    obtain ⟨G, hGe⟩ : ∃ G, G = dgOf n x s L := ⟨_, rfl⟩
    have hGn : G.n = n := by rw [hGe]; rfl
    have hxe : ∀ i q, i < n → q < 4 → x i q = G.X i q := fun i q hi hq => by rw [hGe]; exact sound_x hS hi hq
    have hl1 := hs1.len
    have hmin : min h0.length h1.length = h0.length := by omega
    obtain ⟨h2, hh2⟩ : ∃ H, H = h1 ++ [O.cells [.slice (some ⟨fb, 0, none⟩) (4 * n) (4 * n)] 29 (some 0)] := ⟨_, rfl⟩
    have s2 : Sub h1 h2 := by rw [hh2]; exact (Sub.refl _).app _
    have gl2 : h2[h1.length]? = some (O.cells [.slice (some ⟨fb, 0, none⟩) (4 * n) (4 * n)] 29 (some 0)) := by rw [hh2, app_at0]; rfl
    have l2 : h2.length = h1.length + 1 := by rw [hh2]; simp
    have b2 := s2 _ _ (hs1 _ _ bB)
    have fb2 := s2 _ _ hat1
    have hof := of_ hE (c := c) (hx.sub (hBs.trans (hs1.trans s2))) hS
    rw [← hGe] at hof hG hF ⊢
    simp only [dV] at hof
    simp [joined_fl, hf1, wrN_at0, set_at0, hmin]
    rw [← hh2]
    simp [rdN_def, b2]
    refine hof.imp ?_
    rintro o ⟨h3, f3⟩ ⟨xs, k, rfl, hf3, hs3, hat3, hO, hk3⟩
    simp only at hf3 hs3 hat3
    have gl3 := hs3 _ _ gl2
    have b3 := hs3 _ _ b2
    have fb3 := hs3 _ _ fb2
    have hvc := vertexClasses_ hE hG fb3 (by rw [hGn]; exact hF) (by omega)
    rw [hGn] at hvc
    simp [joined_fl, hf3, rdN_def, gl3]
    refine hvc.imp ?_
    rintro o ⟨h4, f4⟩ ⟨yb, cls, ys, cnt, rfl, hyb, hf4, hs4, hat4, hI, hcnt, hV⟩
    simp only at hf4 hs4 hat4
    have gl4 := hs4 _ _ gl3
    have b4 := hs4 _ _ b3
    have xs4 := hs4 _ _ hat3
    have hct := fun h k => countN_ hE (h := h) (b := yb) (s0 := some 0) (ys := ys) k hI hcnt (by omega)
    unfold AtB at hat4
    have e1 : (cnt : Int) * 8 ≤ 140737488355328 := by omega
    have e2 : (cnt : Int) < 4611686018427387904 := by omega
    simp [joined_fl, hf4, DC_when hct, hat4, e1, e2]
    obtain ⟨P, hP⟩ : ∃ P, P = h4.length := ⟨_, rfl⟩
    have l3 := hs3.len
    have l4 := hs4.len
    have lgl := (List.getElem?_eq_some_iff.1 gl4).1
    have lxs := (List.getElem?_eq_some_iff.1 xs4).1
    have lyb := (List.getElem?_eq_some_iff.1 hat4).1
    have lb4 := (List.getElem?_eq_some_iff.1 b4).1
    rw [← hP] at lgl lxs lyb lb4 l4 ⊢
    obtain ⟨xc, hxc⟩ : ∃ xc, xc = h2.length + 1 := ⟨_, rfl⟩
    rw [← hxc] at xs4 lxs ⊢
    refine DW_loop (fun kk fr st => ∃ (t : Nat) (h : List O) (os : List Int), t + kk = 4 * n ∧ st = ⟨h, h0.length⟩ ∧ Sub h4 h ∧ AtB h P (.cells (intsC os) 3 (some 0)) ∧ OsI G xs ys cnt (4 * t) os ∧ get fr 1 = .pointer (some ⟨h0.length, 0, none⟩) ∧ get fr 4 = .pointer (some ⟨h1.length, 0, none⟩) ∧ get fr 6 = .slice (some ⟨xc, 0, none⟩) (2 * n) (2 * n) ∧ get fr 7 = .slice (some ⟨yb, 0, none⟩) (16 * n) (16 * n) ∧ get fr 8 = .slice (some ⟨P, 0, none⟩) cnt cnt ∧ get fr 9 = .int .i64 t) ?_ (k := 4 * n) ?_
    · rintro kk fr st ⟨t, h, os, htk, rfl, hsub, hat, hOs, g1, g4, g6, g7, g8, g9⟩
      have gl5 := hsub _ _ gl4
      have b5 := hsub _ _ b4
      by_cases ht : t < 4 * n
      · have ht' : (t : Int) < 4 * n := by omega
        have hat' := hat
        unfold AtB at hat'
        have lP := (List.getElem?_eq_some_iff.1 hat').1
        have hwt : IntKind.i64.wrap ((t : Int) + 1) = (t : Int) + 1 := by rw [w64_id] <;> omega
        obtain ⟨cc, hcc⟩ : ∃ cc, cc = t / 4 := ⟨_, rfl⟩
        have hccn : cc < n := by omega
        have hquo : binV .quo (.int .i64 t) (.int .i64 4) = some (.int .i64 cc) := by
          rw [binV_quo (by decide), show ((t : Int)).tdiv 4 = cc by rw [Int.tdiv_eq_ediv_of_nonneg (by omega)]; omega, w64_id] <;> omega
        obtain ⟨u0, hu0⟩ : ∃ u, u = 4 * t := ⟨_, rfl⟩
        obtain ⟨u1, hu1⟩ : ∃ u, u = 4 * t + 1 := ⟨_, rfl⟩
        obtain ⟨u2, hu2⟩ : ∃ u, u = 4 * t + 2 := ⟨_, rfl⟩
        obtain ⟨u3, hu3⟩ : ∃ u, u = 4 * t + 3 := ⟨_, rfl⟩
        have w0 : IntKind.i64.wrap (4 * (t : Int)) = u0 := by rw [w64_id] <;> omega
        have w1 : IntKind.i64.wrap ((u0 : Int) + 1) = u1 := by rw [w64_id] <;> omega
        have w2 : IntKind.i64.wrap ((u0 : Int) + 2) = u2 := by rw [w64_id] <;> omega
        have w3 : IntKind.i64.wrap ((u0 : Int) + 3) = u3 := by rw [w64_id] <;> omega
        have hyl := hI.len
        have lab : ∀ u, u < 16 * n → ∃ l : Nat, nth ys u = l ∧ l < cnt ∧ (nth ys u).toNat = l := fun u hu => by
          have := hI.val u hu
          exact ⟨(nth ys u).toNat, by omega, by omega, rfl⟩
        obtain ⟨l0, a0, c0, d0⟩ := lab u0 (by omega)
        obtain ⟨l1, a1, c1, d1⟩ := lab u1 (by omega)
        obtain ⟨l2, a2, c2, d2⟩ := lab u2 (by omega)
        obtain ⟨l3, a3, c3, d3⟩ := lab u3 (by omega)
        have k0 : u0 < 16 * n := by omega
        have k1 : u1 < 16 * n := by omega
        have k2 : u2 < 16 * n := by omega
        have k3 : u3 < 16 * n := by omega
        have y0 : u0 < ys.length := by omega
        have y1 : u1 < ys.length := by omega
        have y2 : u2 < ys.length := by omega
        have y3 : u3 < ys.length := by omega
        have k0' : (u0 : Int) < 16 * n := by omega
        have k1' : (u1 : Int) < 16 * n := by omega
        have k2' : (u2 : Int) < 16 * n := by omega
        have k3' : (u3 : Int) < 16 * n := by omega
        have sX : Sub h0 h := hBs.trans (hs1.trans (s2.trans (hs3.trans (hs4.trans hsub))))
        obtain ⟨xb, xo, hxa, hxr⟩ := hx
        obtain rfl := hxa hn
        have hcr := sX.rdN (hxr cc hccn)
        rw [rdN_def] at hcr
        simp only [crossC] at hcr
        rw [hxe cc 0 hccn (by omega), hxe cc 1 hccn (by omega)] at hcr
        have hX0 := hG.X cc 0 (by omega) (by omega)
        have hX1 := hG.X cc 1 (by omega) (by omega)
        rw [hGn] at hX0 hX1
        have hX0' : ((G.X cc 0 : Nat) : Int) < 2 * n := by omega
        have hX1' : ((G.X cc 1 : Nat) : Int) < 2 * n := by omega
        have hxl := hO.len
        have x0 : G.X cc 0 < xs.length := by omega
        have x1 : G.X cc 1 < xs.length := by omega
        have xs5 := hsub _ _ xs4
        have ys5 := hsub _ _ hat4
        obtain ⟨cx, hcx⟩ : ∃ cx : List Value, cx = [.int .i64 (G.X cc 0), .int .i64 (G.X cc 1), .int .i64 (x cc 2), .int .i64 (x cc 3), .int .i64 (s cc)] := ⟨_, rfl⟩
        obtain ⟨h6, hh6⟩ : ∃ H, H = h ++ [O.cells [Value.int .i64 (G.X cc 0), .int .i64 (G.X cc 1), .int .i64 (x cc 2), .int .i64 (x cc 3), .int .i64 (s cc)] 107 (some 0)] := ⟨_, rfl⟩
        have s6 : Sub h h6 := by rw [hh6]; exact (Sub.refl _).app _
        have bx6 : h6[h.length]? = some (O.cells [Value.int .i64 (G.X cc 0), .int .i64 (G.X cc 1), .int .i64 (x cc 2), .int .i64 (x cc 3), .int .i64 (s cc)] 107 (some 0)) := by rw [hh6, app_at0]; rfl
        have xs6 := s6 _ _ xs5
        have ys6 := s6 _ _ ys5
        have p6 := s6 _ _ hat'
        have q0 : ∀ o, (h6.set P o)[h.length]? = some (O.cells [Value.int .i64 (G.X cc 0), .int .i64 (G.X cc 1), .int .i64 (x cc 2), .int .i64 (x cc 3), .int .i64 (s cc)] 107 (some 0)) := fun o => set_ne bx6 (by omega)
        have q1 : ∀ o, (h6.set P o)[xc]? = some (O.cells (intsC xs) 3 (some 0)) := fun o => set_ne xs6 (by omega)
        have q2 : ∀ o, (h6.set P o)[yb]? = some (O.cells (intsC ys) 3 (some 0)) := fun o => set_ne ys6 (by omega)
        have q3 : ∀ o, (h6.set P o)[P]? = some o := fun o => set_self p6
        have hl5 := hsub.len
        have hminh : min h0.length h.length = h0.length := by omega
        have hminP : min h0.length P = h0.length := by omega
        have hol := hOs.len
        have m0 : l0 + 1 ≤ cnt := by omega
        have m1 : l1 + 1 ≤ cnt := by omega
        have m2 : l2 + 1 ≤ cnt := by omega
        have m3 : l3 + 1 ≤ cnt := by omega
        simp [g1, g4, g6, g7, g8, g9, rd_def, rdN_def, wrN_def, gl5, b5, ht', hquo, hccn, hcr, wrN_at0, set_at0, hminh]
        simp only [← hh6]
        simp [g1, g4, g6, g7, g8, g9, rd_def, rdN_def, wrN_def, bx6, xs6, ys6, p6, ↓q0, ↓q1, ↓q2, ↓q3, w0, w1, w2, w3, k0', k1', k2', k3', k0, k1, k2, k3, intsC_get y0, intsC_get y1, intsC_get y2, intsC_get y3, a0, a1, a2, a3, c0, c1, c2, c3, hX0, hX1, hX0', hX1', intsC_get x0, intsC_get x1, intsC_set, hol, m0, m1, m2, m3, hwt, hminP]
        refine ⟨⟨fun _ => by omega, fun _ => by omega, fun _ => by omega⟩, ⟨fun _ => by omega, fun _ => by omega, fun _ => by omega⟩, kk - 1, by omega, t + 1, by omega, (hsub.trans s6).set (by omega) _, _, set_self p6, ?_, by omega⟩
        have z0 : nth xs (G.X cc 1) = cuspV G xs (4 * t) := by rw [cuspV_eq, show 4 * t / 16 = cc by omega, show 4 * t % 4 = 0 by omega]; rfl
        have z1 : nth xs (G.X cc 0) = cuspV G xs (4 * t + 1) := by rw [cuspV_eq, show (4 * t + 1) / 16 = cc by omega, show (4 * t + 1) % 4 = 1 by omega]; rfl
        have z2 : (-1 : Int) = cuspV G xs (4 * t + 1 + 1) := by rw [cuspV_eq, show (4 * t + 1 + 1) % 4 = 2 by omega]; rfl
        have z3 : (-2 : Int) = cuspV G xs (4 * t + 1 + 1 + 1) := by rw [cuspV_eq, show (4 * t + 1 + 1 + 1) % 4 = 3 by omega]; rfl
        rw [← hGn] at hO hI hV
        have o1 := hOs.step hG hO hI hV (by omega) z0
        have o2 := o1.step hG hO hI hV (by omega) z1
        have o3 := o2.step hG hO hI hV (by omega) z2
        have o4 := o3.step hG hO hI hV (by omega) z3
        rw [hu0] at d0
        rw [hu1] at d1
        rw [hu2] at d2
        rw [hu3] at d3
        rw [d0, d1, show 4 * t + 1 + 1 = 4 * t + 2 from rfl, d2, show 4 * t + 2 + 1 = 4 * t + 3 from rfl, d3] at o4
        rw [show 4 * (t + 1) = 4 * t + 3 + 1 by omega]
        exact o4
      · have ht' : ¬ (t : Int) < 4 * n := by omega
        simp [g1, g4, g6, g7, g8, g9, rd_def, gl5, ht']
        unfold pairQ back
        rw [if_neg (by simp [Out.scalar, scalar, flat1, flat])]
        have hls : os = cuspL G xs (16 * G.n) := by
          have hnum : Numb (16 * G.n) (VC (nbF (outF G))) (fun a => (nth ys a).toNat) cnt := by
            have h0 := hI.numb
            rw [hGn]
            exact h0.congr fun a b ha hb => hV a b ha hb
          refine cusp_list hnum hOs.len fun u hu => ?_
          exact hOs.val u (by omega)
        rw [hGn] at hls
        exact .inr ⟨hk, xs, ⟨k, hO⟩, P, cnt, rfl, by omega, Nat.le_refl _, hBs.trans (hs1.trans (s2.trans (hs3.trans (hs4.trans hsub)))), by rw [← hls]; exact hat, by rw [← hls]; exact hOs.len⟩
    · refine ⟨0, h4 ++ [O.cells (rep cnt [.int .i64 0]) 3 (some 0)], List.replicate cnt 0, by omega, rfl, (Sub.refl _).app _, ?_, ⟨by simp, fun u hu => by omega⟩, by simp⟩
      unfold AtB
      rw [hP, app_at0]; simp [rep, intsC]
end Go.Proofs.Ytjlkndkedknocaa
namespace Go.Proofs.Ytjlkndkedknocaa
open Go Go.Ai
set_option linter.unusedSimpArgs false
set_option linter.unusedVariables false
attribute [local instance] Classical.propDecidable
/-- A list of numbers to be read. -/
def LisP (h : List O) (a : Option Addr) (N : Nat) (xs : List Int) : Prop := xs.length = N ∧ (0 < N → ∃ b el own, a = some ⟨b, 0, none⟩ ∧ h[b]? = some (.cells (intsC xs) el own))
theorem LisP.sub {h h' : List O} {a : Option Addr} {N : Nat} {xs : List Int} (k : LisP h a N xs) (hs : Sub h h') : LisP h' a N xs :=
  ⟨k.1, fun h0 => by obtain ⟨b, el, own, h1, h2⟩ := k.2 h0; exact ⟨b, el, own, h1, hs _ _ h2⟩⟩
/-- The rows of faces to be read. -/
def RowP (h : List O) (a : Option Addr) (M : Nat) (F : Nat → Nat → Option (Nat × Bool)) : Prop := 0 < M → ∃ b cs el own, a = some ⟨b, 0, none⟩ ∧ h[b]? = some (.cells cs el own) ∧ FacesC cs M F
theorem RowP.sub {h h' : List O} {a : Option Addr} {M : Nat} {F : Nat → Nat → Option (Nat × Bool)} (k : RowP h a M F) (hs : Sub h h') : RowP h' a M F := fun h0 => by
  obtain ⟨b, cs, el, own, h1, h2, h3⟩ := k h0
  exact ⟨b, cs, el, own, h1, hs _ _ h2, h3⟩
theorem row_key (F : Nat → Nat → Option (Nat × Bool)) (t : Nat) : keyCells [some .i64, some .i64, some .i64, some .i64, some .i64, some .i64, some .i64, some .i64, some .i64, some .i64, some .i64, some .i64, some .i64, some .i64, some .i64, some .i64, some .i64, some .i64, some .i64, some .i64] true (.agg (fcC (F t 0) ++ fcC (F t 1) ++ fcC (F t 2) ++ fcC (F t 3)).toArray) = some (fcC (F t 0) ++ fcC (F t 1) ++ fcC (F t 2) ++ fcC (F t 3)) := by
  rw [fcC_eq, fcC_eq, fcC_eq, fcC_eq]; rfl
theorem row_same (F : Nat → Nat → Option (Nat × Bool)) (t : Nat) : eqCells (fcC (F t 0) ++ fcC (F t 1) ++ fcC (F t 2) ++ fcC (F t 3)) (fcC (F t 0) ++ fcC (F t 1) ++ fcC (F t 2) ++ fcC (F t 3)) = true := by
  rw [fcC_eq, fcC_eq, fcC_eq, fcC_eq]; simp [eqCells, eqCell]
variable {E : Env} (hE : OE E)
include hE
theorem sameInts_ {h : List O} {a a' : Option Addr} {N c c' : Nat} {xs : List Int} (h1 : LisP h a N xs) (h2 : LisP h a' N xs) (hN : N ≤ 100000) :
    DR E 24 [.slice a N c, .slice a' N c'] ⟨h, h.length⟩ (.ret (.bool true)) ⟨h, h.length⟩ := by
  refine hE.fn (body := rb24) rfl ?_
  unfold rb24
  simp
  refine DW_loop (fun kk fr st => ∃ (i : Nat), i + kk = N ∧ st = ⟨h, h.length⟩ ∧ get fr 0 = .slice a N c ∧ get fr 1 = .slice a' N c' ∧ get fr 5 = .int .i64 i) ?_ (k := N) ?_
  · rintro kk fr st ⟨i, hik, rfl, g0, g1, g5⟩
    by_cases hi : i < N
    · have hw : IntKind.i64.wrap ((i : Int) + 1) = (i : Int) + 1 := by rw [w64_id] <;> omega
      obtain ⟨b, el, own, rfl, k1⟩ := h1.2 (by omega)
      obtain ⟨b', el', own', rfl, k2⟩ := h2.2 (by omega)
      have hl := h1.1
      have hix : i < xs.length := by omega
      simp [g0, g1, g5, hi, rd_def, k1, k2, intsC_get hix, hw]
      exact ⟨kk - 1, by omega, i + 1, by omega, by omega⟩
    · simp [g0, g1, g5, hi]
  · exact ⟨0, by omega, rfl, by simp⟩
theorem sameG_ {h : List O} {a a' : Option Addr} {M c c' : Nat} {F : Nat → Nat → Option (Nat × Bool)} (h1 : RowP h a M F) (h2 : RowP h a' M F) (hM : M ≤ 100000) :
    DR E 21 [.agg #[.slice a M c], .agg #[.slice a' M c']] ⟨h, h.length⟩ (.ret (.bool true)) ⟨h, h.length⟩ := by
  refine hE.fn (body := rb21) rfl ?_
  unfold rb21
  simp [List.append_assoc, rd_at0, rd_at]
  obtain ⟨hB, hhB⟩ : ∃ H, H = h ++ [O.cells [.slice a M c] 29 (some 0), O.cells [.slice a' M c'] 29 (some 0)] := ⟨_, rfl⟩
  have hBs : Sub h hB := by rw [hhB]; exact (Sub.refl _).app _
  have hB0 : hB[h.length]? = some (O.cells [.slice a M c] 29 (some 0)) := by rw [hhB, app_at0]; rfl
  have hB1 : hB[h.length + 1]? = some (O.cells [.slice a' M c'] 29 (some 0)) := by rw [hhB, app_at]; rfl
  rw [← hhB]
  refine DW_loop (fun kk fr st => ∃ (i : Nat), i + kk = M ∧ st = ⟨hB, h.length⟩ ∧ get fr 2 = .pointer (some ⟨h.length, 0, none⟩) ∧ get fr 3 = .pointer (some ⟨h.length + 1, 0, none⟩) ∧ get fr 5 = .int .i64 i) ?_ (k := M) ?_
  · rintro kk fr st ⟨i, hik, rfl, g2, g3, g5⟩
    by_cases hi : i < M
    · have hw : IntKind.i64.wrap ((i : Int) + 1) = (i : Int) + 1 := by rw [w64_id] <;> omega
      obtain ⟨b, cs, el, own, rfl, k1, k3⟩ := h1.sub hBs (by omega)
      obtain ⟨b', cs', el', own', rfl, k2, k4⟩ := h2.sub hBs (by omega)
      have r1 := k3.row hi
      have r2 := k4.row hi
      have l1 := k3.1
      have l2 := k4.1
      have q1 : i * 20 + 20 ≤ 20 * M := by omega
      have hk := row_key F i
      have hs := row_same F i
      obtain ⟨row, hrow⟩ : ∃ row, row = fcC (F i 0) ++ fcC (F i 1) ++ fcC (F i 2) ++ fcC (F i 3) := ⟨_, rfl⟩
      rw [← hrow] at r1 r2 hk hs
      simp [g2, g3, g5, rd_def, rdN_def, hB0, hB1, hi, k1, k2, l1, l2, q1, r1, r2, hk, hs, hw]
      exact ⟨kk - 1, by omega, i + 1, by omega, by omega⟩
    · simp [g2, g3, g5, rd_def, hB0, hB1, hi]
  · exact ⟨0, by omega, rfl, by simp⟩
end Go.Proofs.Ytjlkndkedknocaa
namespace Go.Proofs.Ytjlkndkedknocaa
open Go Go.Ai
set_option linter.unusedSimpArgs false
set_option linter.unusedVariables false
attribute [local instance] Classical.propDecidable
theorem LisP.own {h : List O} {lo N : Nat} {v : Value} {xs : List Int} {el : TypeId} (k : OwnS h lo v N (intsC xs) el 1) : ∃ a, v = .slice a N N ∧ LisP h a N xs := by
  obtain ⟨k1, k2⟩ := k
  have hl : xs.length = N := by simpa using k1
  rcases k2 with ⟨rfl, h0⟩ | ⟨b, s, rfl, _, h3, _⟩
  · subst h0; exact ⟨none, rfl, hl, fun h => absurd h (by omega)⟩
  · exact ⟨_, rfl, hl, fun _ => ⟨b, el, _, rfl, h3⟩⟩
variable {E : Env} (hE : OE E)
include hE
/-- The gluings. -/
theorem outs1 {h0 : List O} {a : Option Addr} {n c : Nat} {x : Nat → Nat → Int} {s : Nat → Int} {L : Int} (hx : CrossP h0 a n x s) :
    DC E 17 [dV a n c L] ⟨h0, h0.length⟩ fun o st' => ∃ a1 M, o = .ret (.tuple #[.agg #[.slice a1 M M], .int .i64 (askD n x s L)]) ∧ M = (if askD n x s L = 0 then 4 * n else 0) ∧ h0.length ≤ st'.fl ∧ Sub h0 st'.h ∧ RowP st'.h a1 M (outF (dgOf n x s L)) := by
  refine (OutsideR_ hE hx).imp ?_
  rintro o st' (⟨hk, rfl, rfl⟩ | ⟨hk, fb, rfl, h1, h2, h3, cs, h4, h5⟩)
  · exact ⟨none, 0, rfl, by rw [if_neg hk], Nat.le_refl _, Sub.refl _, fun h => absurd h (by omega)⟩
  · exact ⟨_, 4 * n, by rw [hk], by rw [if_pos hk], h2, h3, fun _ => ⟨fb, cs, _, _, rfl, h4, h5⟩⟩
theorem outs2 {h0 : List O} {a : Option Addr} {n c : Nat} {x : Nat → Nat → Int} {s : Nat → Int} {L : Int} (hx : CrossP h0 a n x s) :
    DC E 18 [dV a n c L] ⟨h0, h0.length⟩ fun o st' => ∃ a1 M, o = .ret (.tuple #[.agg #[.slice a1 M M], .int .i64 (askD n x s L)]) ∧ M = (if askD n x s L = 0 then 4 * n else 0) ∧ h0.length ≤ st'.fl ∧ Sub h0 st'.h ∧ RowP st'.h a1 M (outF (dgOf n x s L)) := by
  refine (Outside_ hE hx).imp ?_
  rintro o st' (⟨hk, rfl, rfl⟩ | ⟨hk, fb, rfl, h1, h2, h3, cs, h4, h5⟩)
  · exact ⟨none, 0, rfl, by rw [if_neg hk], Nat.le_refl _, Sub.refl _, fun h => absurd h (by omega)⟩
  · exact ⟨_, 4 * n, by rw [hk], by rw [if_pos hk], h2, h3, fun _ => ⟨fb, cs, _, _, rfl, h4, h5⟩⟩
/-- The list of cusps. -/
def CuL (n : Nat) (x : Nat → Nat → Int) (s : Nat → Int) (L : Int) (ls : List Int) : Prop := (askD n x s L ≠ 0 ∧ ls = []) ∨ (askD n x s L = 0 ∧ n ≤ 200 ∧ ∃ xs k, OrbI (2 * n) (nx (dgOf n x s L)) (2 * n) k xs ∧ ls = cuspL (dgOf n x s L) xs (16 * n))
omit hE in
theorem CuL.same {n : Nat} {x : Nat → Nat → Int} {s : Nat → Int} {L : Int} {l l' : List Int} (h : CuL n x s L l) (h' : CuL n x s L l') : l = l' := by
  rcases h with ⟨h1, rfl⟩ | ⟨h1, _, xs, k, h2, rfl⟩
  · rcases h' with ⟨k1, rfl⟩ | ⟨k1, _⟩
    · rfl
    · exact absurd k1 h1
  · rcases h' with ⟨k1, rfl⟩ | ⟨k1, _, xs', k', k2, rfl⟩
    · exact absurd h1 k1
    · rw [OrbI.same h2 k2]
omit hE in
theorem CuL.len {n : Nat} {x : Nat → Nat → Int} {s : Nat → Int} {L : Int} {l : List Int} (h : CuL n x s L l) : l.length ≤ 100000 := by
  rcases h with ⟨h1, rfl⟩ | ⟨h1, hn, xs, k, h2, rfl⟩
  · simp
  · have := cuspL_len (dgOf n x s L) xs (16 * n); omega
theorem cusp1 {h0 : List O} {a : Option Addr} {n c : Nat} {x : Nat → Nat → Int} {s : Nat → Int} {L : Int} (hx : CrossP h0 a n x s) :
    DC E 22 [dV a n c L] ⟨h0, h0.length⟩ fun o st' => ∃ (a1 : Option Addr) (N : Nat) (ls : List Int), CuL n x s L ls ∧ o = .ret (.tuple #[.slice a1 N N, .int .i64 (askD n x s L)]) ∧ h0.length ≤ st'.fl ∧ Sub h0 st'.h ∧ LisP st'.h a1 N ls := by
  refine (CuspsR_ hE hx).imp ?_
  rintro o st' (⟨hk, rfl, rfl⟩ | ⟨hk, xs, k, b, cnt, hO, rfl, h1, h2, h3, h4, h5⟩)
  · exact ⟨none, 0, [], .inl ⟨hk, rfl⟩, rfl, Nat.le_refl _, Sub.refl _, rfl, fun h => absurd h (by omega)⟩
  · exact ⟨_, cnt, _, .inr ⟨hk, (ask_pos hk).2.2, xs, k, hO, rfl⟩, by rw [hk], h2, h3, h5, fun _ => ⟨b, _, _, rfl, h4⟩⟩
theorem cusp2 {h0 : List O} {a : Option Addr} {n c : Nat} {x : Nat → Nat → Int} {s : Nat → Int} {L : Int} (hx : CrossP h0 a n x s) :
    DC E 23 [dV a n c L] ⟨h0, h0.length⟩ fun o st' => ∃ (a1 : Option Addr) (N : Nat) (ls : List Int), CuL n x s L ls ∧ o = .ret (.tuple #[.slice a1 N N, .int .i64 (askD n x s L)]) ∧ h0.length ≤ st'.fl ∧ Sub h0 st'.h ∧ LisP st'.h a1 N ls := by
  refine (Cusps_ hE hx).imp ?_
  rintro o st' (⟨hk, rfl, rfl⟩ | ⟨hk, xs, k, v, hO, rfl, h2, h3, h4⟩)
  · exact ⟨none, 0, [], .inl ⟨hk, rfl⟩, rfl, Nat.le_refl _, Sub.refl _, rfl, fun h => absurd h (by omega)⟩
  · obtain ⟨a1, rfl, h5⟩ := LisP.own h4
    exact ⟨a1, _, _, .inr ⟨hk, (ask_pos hk).2.2, xs, k, hO, rfl⟩, by rw [hk], h2, h3, h5⟩
/-- The faces along an arc. -/
noncomputable def arcE (n : Nat) (x : Nat → Nat → Int) (s : Nat → Int) (L arc : Int) : Int := if askD n x s L ≠ 0 then askD n x s L else if 0 ≤ arc ∧ arc < 2 * n then 0 else 1
def ArP (h : List O) (a1 : Option Addr) (G : Dg) (e arc : Int) (N : Nat) : Prop := N = (if e = 0 then 4 else 0) ∧ (0 < N → ∃ b el own, a1 = some ⟨b, 0, none⟩ ∧ h[b]? = some (.cells (alongC G arc.toNat) el own))
theorem arc1 {h0 : List O} {a : Option Addr} {n c : Nat} {x : Nat → Nat → Int} {s : Nat → Int} {L : Int} (hx : CrossP h0 a n x s) {arc : Int} :
    DC E 25 [dV a n c L, .int .i64 arc] ⟨h0, h0.length⟩ fun o st' => ∃ a1 N, o = .ret (.tuple #[.slice a1 N N, .int .i64 (arcE n x s L arc)]) ∧ h0.length ≤ st'.fl ∧ Sub h0 st'.h ∧ ArP st'.h a1 (dgOf n x s L) (arcE n x s L arc) arc N := by
  refine (ArcR_ hE hx).imp ?_
  rintro o st' (⟨hk, rfl, rfl⟩ | ⟨hk, ha, rfl, rfl⟩ | ⟨hk, ha, b, rfl, h1, h2, h3, h4⟩)
  · have e : arcE n x s L arc = askD n x s L := by unfold arcE; rw [if_pos hk]
    exact ⟨none, 0, by rw [e], Nat.le_refl _, Sub.refl _, by rw [e, if_neg hk], fun h => absurd h (by omega)⟩
  · have e : arcE n x s L arc = 1 := by unfold arcE; rw [if_neg (by simpa using hk), if_neg ha]
    exact ⟨none, 0, by rw [e], Nat.le_refl _, Sub.refl _, by rw [e]; rfl, fun h => absurd h (by omega)⟩
  · have e : arcE n x s L arc = 0 := by unfold arcE; rw [if_neg (by simpa using hk), if_pos ha]
    exact ⟨_, 4, by rw [e], h2, h3, by rw [e]; rfl, fun _ => ⟨b, _, _, rfl, h4⟩⟩
theorem arc2 {h0 : List O} {a : Option Addr} {n c : Nat} {x : Nat → Nat → Int} {s : Nat → Int} {L : Int} (hx : CrossP h0 a n x s) {arc : Int} :
    DC E 26 [dV a n c L, .int .i64 arc] ⟨h0, h0.length⟩ fun o st' => ∃ a1 N, o = .ret (.tuple #[.slice a1 N N, .int .i64 (arcE n x s L arc)]) ∧ h0.length ≤ st'.fl ∧ Sub h0 st'.h ∧ ArP st'.h a1 (dgOf n x s L) (arcE n x s L arc) arc N := by
  refine (Arc_ hE hx).imp ?_
  rintro o st' (⟨hk, rfl, rfl⟩ | ⟨hk, ha, rfl, rfl⟩ | ⟨hk, ha, b, rfl, h1, h2, h3, h4⟩)
  · have e : arcE n x s L arc = askD n x s L := by unfold arcE; rw [if_pos hk]
    exact ⟨none, 0, by rw [e], Nat.le_refl _, Sub.refl _, by rw [e, if_neg hk], fun h => absurd h (by omega)⟩
  · have e : arcE n x s L arc = 1 := by unfold arcE; rw [if_neg (by simpa using hk), if_neg ha]
    exact ⟨none, 0, by rw [e], Nat.le_refl _, Sub.refl _, by rw [e]; rfl, fun h => absurd h (by omega)⟩
  · have e : arcE n x s L arc = 0 := by unfold arcE; rw [if_neg (by simpa using hk), if_pos ha]
    exact ⟨_, 4, by rw [e], h2, h3, by rw [e]; rfl, fun _ => ⟨b, _, _, rfl, h4⟩⟩
theorem law3 {h0 : List O} {a : Option Addr} {n c : Nat} {x : Nat → Nat → Int} {s : Nat → Int} {L : Int} {arc : Int} (hx : CrossP h0 a n x s) (hroom : n * 40 ≤ roomMax) (hsane : ∀ h, DR E 15 [] ⟨h, h.length⟩ (.ret (.bool true)) ⟨h, h.length⟩) :
    DR E 3 [dV a n c L, .int .i64 arc] ⟨h0, h0.length⟩ (.ret (.bool true)) ⟨h0, h0.length⟩ := by
  refine hE.fn (body := rb3) rfl ?_
  unfold rb3
  obtain ⟨hB, hhB⟩ : ∃ H, H = h0 ++ [O.cells [.slice a n c, .int .i64 L] 24 (some 0)] := ⟨_, rfl⟩
  have hBs : Sub h0 hB := by rw [hhB]; exact (Sub.refl _).app _
  have lB : hB.length = h0.length + 1 := by rw [hhB]; simp
  have hB0 : hB[h0.length]? = some (O.cells [.slice a n c, .int .i64 L] 24 (some 0)) := by rw [hhB, app_at0]; rfl
  have hfew := few_ hE (h := hB) (a := a) (n := n) (c := c) (L := L)
  simp [dV, ← hhB, DC_q hsane, rdN_def, hB0]
  simp only [dV] at hfew
  by_cases hn : n ≤ 8 ∨ 200 < n
  · simp only [hn, decide_true] at hfew
    have ho1 := outs1 hE (c := c) (L := L) (hx.sub hBs)
    simp only [dV] at ho1
    simp [DC_of hfew, joined_fl, rdN_def, hB0]
    refine ho1.imp ?_
    rintro o ⟨h1, f1⟩ ⟨a1, M, rfl, hM, hf1, hs1, hr1⟩
    simp only at hf1 hs1 hr1
    obtain ⟨h2, hh2⟩ : ∃ H, H = h1 ++ [O.cells [.slice a1 M M] 29 (some 0)] := ⟨_, rfl⟩
    have s2 : Sub h1 h2 := by rw [hh2]; exact (Sub.refl _).app _
    have g2 : h2[h1.length]? = some (O.cells [.slice a1 M M] 29 (some 0)) := by rw [hh2, app_at0]; rfl
    have d2 := s2 _ _ (hs1 _ _ hB0)
    have ls1 := hs1.len
    have hmin : min h0.length h1.length = h0.length := by omega
    have sB2 := hs1.trans s2
    have ho2 := outs2 hE (c := c) (L := L) (hx.sub (hBs.trans sB2))
    simp only [dV] at ho2
    simp [joined_fl, hf1, wrN_at0, set_at0, hmin, ← hh2, rdN_def, d2]
    refine ho2.imp ?_
    rintro o ⟨h3, f3⟩ ⟨a3, M3, rfl, hM3, hf3, hs3, hr3⟩
    simp only at hf3 hs3 hr3
    obtain rfl : M = M3 := by rw [hM, hM3]
    obtain ⟨h4, hh4⟩ : ∃ H, H = h3 ++ [O.cells [.slice a3 M M] 29 (some 0)] := ⟨_, rfl⟩
    have s4 : Sub h3 h4 := by rw [hh4]; exact (Sub.refl _).app _
    have g4 : h4[h3.length]? = some (O.cells [.slice a3 M M] 29 (some 0)) := by rw [hh4, app_at0]; rfl
    have sB4 := sB2.trans (hs3.trans s4)
    have d4 := sB4 _ _ hB0
    have g24 := (hs3.trans s4) _ _ g2
    have ls3 := hs3.len
    have ls2 := s2.len
    have hmin3 : min h0.length h3.length = h0.length := by omega
    have hx4 := hx.sub (hBs.trans sB4)
    have hm1 := fun h k => Mixed_ hE (h0 := h) (a := a) (x := x) (c := c) (L := L) (n := n) (s := s) k
    have hm2 := fun h k => mixedR_ hE (h0 := h) (a := a) (x := x) (c := c) (L := L) (n := n) (s := s) k
    have hMl : M ≤ 100000 := by
      rw [hM]
      split
      · rename_i hk; have := (ask_pos hk).2.2; omega
      · omega
    have hsg := sameG_ hE (c := M) (c' := M) (hr3.sub s4) (hr1.sub (s2.trans (hs3.trans s4))) hMl
    simp only [dV] at hm1 hm2
    simp [joined_fl, hf3, wrN_at0, set_at0, hmin3, ← hh4, rdN_def, d4, DC_when hm1, DC_when hm2, hx4, g4, g24, DC_of hsg]
    have hc1 := cusp1 hE (c := c) (L := L) hx4
    simp only [dV] at hc1
    refine hc1.imp ?_
    rintro o ⟨h5, f5⟩ ⟨a5, N5, l5, hC5, rfl, hf5, hs5, hL5⟩
    simp only at hf5 hs5 hL5
    have d5 := hs5 _ _ d4
    have hx5 := hx4.sub hs5
    have hc2 := cusp2 hE (c := c) (L := L) hx5
    simp only [dV] at hc2
    simp [joined_fl, hf5, rdN_def, d5]
    refine hc2.imp ?_
    rintro o ⟨h6, f6⟩ ⟨a6, N6, l6, hC6, rfl, hf6, hs6, hL6⟩
    simp only at hf6 hs6 hL6
    obtain rfl : l5 = l6 := hC5.same hC6
    obtain rfl : N5 = N6 := hL5.1.symm.trans hL6.1
    have d6 := hs6 _ _ d5
    have hx6 := hx5.sub hs6
    have hNl : N5 ≤ 100000 := by rw [← hL5.1]; exact hC5.len
    have hsi := sameInts_ hE (c := N5) (c' := N5) hL6 (hL5.sub hs6) hNl
    have hr1' := arc1 hE (c := c) (L := L) hx6 (arc := arc)
    simp only [dV] at hr1'
    simp [joined_fl, hf6, DC_of hsi, rdN_def, d6]
    refine hr1'.imp ?_
    rintro o ⟨h7, f7⟩ ⟨a7, N7, rfl, hf7, hs7, hA7⟩
    simp only at hf7 hs7 hA7
    have d7 := hs7 _ _ d6
    have hx7 := hx6.sub hs7
    have hr2' := arc2 hE (c := c) (L := L) hx7 (arc := arc)
    simp only [dV] at hr2'
    simp [joined_fl, hf7, rdN_def, d7]
    refine hr2'.imp ?_
    rintro o ⟨h8, f8⟩ ⟨a8, N8, rfl, hf8, hs8, hA8⟩
    simp only at hf8 hs8 hA8
    obtain rfl : N7 = N8 := hA7.1.trans hA8.1.symm
    simp [joined_fl, hf8]
    refine DW_loop (fun kk fr st => ∃ (i : Nat), i + kk = N7 ∧ st = ⟨h8, h0.length⟩ ∧ get fr 11 = .slice a7 N7 N7 ∧ get fr 12 = .slice a8 N7 N7 ∧ get fr 13 = .int .i64 i) ?_ (k := N7) ?_
    · rintro kk fr st ⟨i, hik, rfl, g11, g12, g13⟩
      by_cases hi : i < N7
      · have hN4 : N7 ≤ 4 := by rw [hA7.1]; split <;> omega
        have hw : IntKind.i64.wrap ((i : Int) + 1) = (i : Int) + 1 := by rw [w64_id] <;> omega
        obtain ⟨b7, el7, ow7, rfl, k7⟩ := hA7.2 (by omega)
        obtain ⟨b8, el8, ow8, rfl, k8⟩ := hA8.2 (by omega)
        have k7' := hs8 _ _ k7
        have hlen : (alongC (dgOf n x s L) arc.toNat).length = 8 := rfl
        have hb2 : i * 2 + 2 ≤ 8 := by omega
        have hpair : ∃ p q : Nat, ((alongC (dgOf n x s L) arc.toNat).drop (i * 2)).take 2 = [.int .i64 p, .int .i64 q] := by
          have hi4 : i < 4 := by omega
          match i, hi4 with
          | 0, _ => exact ⟨_, _, rfl⟩
          | 1, _ => exact ⟨_, _, rfl⟩
          | 2, _ => exact ⟨_, _, rfl⟩
          | 3, _ => exact ⟨_, _, rfl⟩
        obtain ⟨p, q, hpq⟩ := hpair
        simp [g11, g12, g13, hi, rdN_def, k7', k8, hlen, hb2, hpq, hw]
        exact ⟨kk - 1, by omega, i + 1, by omega, by omega⟩
      · simp [g11, g12, g13, hi]
    · exact ⟨0, by omega, rfl, by simp⟩
  · simp only [hn, decide_false] at hfew
    simp [DC_of hfew, joined_fl]
end Go.Proofs.Ytjlkndkedknocaa
