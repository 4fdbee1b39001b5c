/- Texts that were built one by one: Wb1, Wb2, Ra1, Ra2, Ra3, Ra4, Ra5, Wb3, Wb4, Wb5, Wm3, Wr4, Wr5, Wr6, Wr1, Wr2, Ra6, Ra7, Ra8. -/
import Derived.Test.YtjlkndkedknocaaMf
import Derived.Test.YtjlkndkedknocaaMd
set_option linter.unusedSimpArgs false
set_option linter.unusedVariables false
namespace Go.Ai
theorem pw_eq {α : Type} {f : α → Nat} : ∀ {l : List α}, l.Pairwise (fun x y => f x ≠ f y) → ∀ {x y : α}, x ∈ l → y ∈ l → f x = f y → x = y
 | [], _, x, _, h, _, _ => by simp at h
 | z :: l, hp, x, y, hx, hy, e => by
  rw [List.pairwise_cons] at hp
  rcases List.mem_cons.1 hx with hx | hx
  ·rcases List.mem_cons.1 hy with hy | hy
   ·rw [hx, hy]
   ·rw [hx] at e; exact absurd e (hp.1 y hy)
  ·rcases List.mem_cons.1 hy with hy | hy
   ·rw [hy] at e; exact absurd e.symm (hp.1 x hx)
   ·exact pw_eq hp.2 hx hy e
theorem nodup_le : ∀ {s l : List Nat}, s.Nodup → (∀ b ∈ s, b ∈ l) → s.length ≤ l.length
 | [], l, _, _ => by simp
 | x :: s, l, h1, h2 => by
  rw [List.nodup_cons] at h1
  have hx := h2 x (by simp)
  have h3 := nodup_le (s := s) (l := l.erase x) h1.2 fun b hb => (List.mem_erase_of_ne (fun e => by rw [e] at hb; exact h1.1 hb)).2 (h2 b (by simp [hb]))
  rw [List.length_erase_of_mem hx] at h3
  have := List.length_pos_of_mem hx
  simp; omega
end Go.Ai
namespace Go.Proofs.Ytjlkndkedknocaa
open Go Go.Ai
attribute [local instance] Classical.propDecidable
theorem lE_born {X : Nat → Nat → Nat} {s : Nat → Int} : ∀ {c : Nat}, ∀ y ∈ lE X s c, y.2.2 < 2 * c := by
 intro c
 induction c with
 | zero => intro y h; simp [lE] at h
 | succ c ih =>
  intro y h
  simp only [lE, List.mem_append, List.mem_singleton] at h
  rcases h with (h | rfl) | rfl
  ·have := ih y h; omega
  ·simp only; omega
  ·simp only; omega
theorem lE_pw (X : Nat → Nat → Nat) (s : Nat → Int) : ∀ c, (lE X s c).Pairwise fun x y => x.2.2 ≠ y.2.2 := by
 intro c
 induction c with
 | zero => exact List.Pairwise.nil
 | succ c ih =>
  simp only [lE]
  rw [List.pairwise_append, List.pairwise_append]
  refine ⟨⟨ih, List.pairwise_singleton _ _, fun x hx y hy => ?_⟩, List.pairwise_singleton _ _, fun x hx y hy => ?_⟩
  ·simp at hy
   rw [hy]
   have := lE_born x hx
   simp only; omega
  ·simp at hy
   rw [hy]
   rcases List.mem_append.1 hx with hx | hx
   ·have := lE_born x hx
    simp only; omega
   ·simp at hx
    rw [hx]; simp
theorem lE_length (X : Nat → Nat → Nat) (s : Nat → Int) : ∀ c, (lE X s c).length = 2 * c := by
 intro c
 induction c with
 | zero => rfl
 | succ c ih => simp [lE, ih]; omega
theorem lE_is {X : Nat → Nat → Nat} {s : Nat → Int} : ∀ {n : Nat}, ∀ y ∈ lE X s n, ∃ c p, c < n ∧ (p = 0 ∨ p = inP (s c)) ∧ y.1 = (c, p) ∧ y.2.1 = .int .i64 (X c p) := by
 intro n
 induction n with
 | zero => intro y h; simp [lE] at h
 | succ n ih =>
  intro y h
  simp only [lE, List.mem_append, List.mem_singleton] at h
  rcases h with (h | rfl) | rfl
  ·obtain ⟨c, p, h1, h2⟩ := ih y h
   exact ⟨c, p, by omega, h2⟩
  ·exact ⟨n, 0, by omega, .inl rfl, rfl, rfl⟩
  ·exact ⟨n, _, by omega, .inr rfl, rfl, rfl⟩
theorem lE_has {X : Nat → Nat → Nat} {s : Nat → Int} : ∀ {n c p : Nat}, c < n → (p = 0 ∨ p = inP (s c)) → ∃ b, ((c, p), Value.int .i64 (X c p), b) ∈ lE X s n := by
 intro n
 induction n with
 | zero => intro c p h; omega
 | succ n ih =>
  intro c p hc hp
  simp only [lE, List.mem_append, List.mem_singleton]
  by_cases e : c < n
  ·obtain ⟨b, hb⟩ := ih e hp
   exact ⟨b, .inl (.inl hb)⟩
  ·obtain rfl : c = n := by omega
   rcases hp with rfl | rfl
   ·exact ⟨_, .inl (.inr rfl)⟩
   ·exact ⟨_, .inr rfl⟩
def finT (G : Dg) (a : Nat) : Nat × Nat := (G.T a 2, G.T a 3)
def finL (G : Dg) : List (Nat × Nat) := (List.range (2 * G.n)).map (finT G)
theorem in_place {s : Int} (hs : s = 1 ∨ s = -1) {p : Nat} : ((p = 0 ∨ p = inP s) ↔ p < 4 ∧ outB s p = false) := by
 rcases hs with rfl | rfl
 ·constructor
  ·rintro (rfl | rfl)
   ·exact ⟨by omega, rfl⟩
   ·exact ⟨by decide, rfl⟩
  ·rintro ⟨h1, h2⟩
   match p, h1 with
   | 0, _ => exact .inl rfl
   | 1, _ => simp [outB] at h2
   | 2, _ => simp [outB] at h2
   | 3, _ => exact .inr rfl
 ·constructor
  ·rintro (rfl | rfl)
   ·exact ⟨by omega, rfl⟩
   ·exact ⟨by decide, rfl⟩
  ·rintro ⟨h1, h2⟩
   match p, h1 with
   | 0, _ => exact .inl rfl
   | 1, _ => exact .inr rfl
   | 2, _ => simp [outB] at h2
   | 3, _ => simp [outB] at h2
theorem fin_of {G : Dg} (hG : GoodG G) {c p : Nat} (hc : c < G.n) (hp : p < 4) (ho : outB (G.s c) p = false) : finT G (G.X c p) = (c, p) := by
 have ha := hG.X c p hc hp
 rcases hG.cover c p hc hp with ⟨h1, h2⟩ | ⟨h1, h2⟩
 ·have := (hG.dir _ ha).1
  rw [← h1, ← h2, ho] at this
  cases this
 ·unfold finT; rw [← h1, ← h2]
theorem cellsL_len (l : List (Nat × Nat)) : (cellsL l).length = l.length * 2 := by
 induction l with
 | nil => rfl
 | cons y l ih => show (cells2 y ++ cellsL l).length = _; rw [List.length_append, ih]; simp [cells2]; omega
theorem cellsL_set {e : List (Nat × Nat)} {a : Nat} {x : Nat × Nat} (ha : a < e.length) : setL (cellsL e) (a * 2) (cells2 x) = cellsL (e.set a x) := by
 induction e generalizing a with
 | nil => simp at ha
 | cons y l ih =>
  cases a with
  | zero => simp [cellsL, cells2]
  | succ a =>
   have h := ih (a := a) (by simpa using ha)
   have e1 : cellsL (y :: l) = cells2 y ++ cellsL l := rfl
   have e2 : cellsL ((y :: l).set (a + 1) x) = cells2 y ++ cellsL (l.set a x) := rfl
   rw [e1, e2, ← h]
   simp [cells2, show (a + 1) * 2 = a * 2 + 2 by omega]
def walkM (h0 : List O) (pl : Nat) (i : Int) (G : Dg) : List O :=
 (h0 ++ [.cells [.pointer (some ⟨pl, 0, none⟩)] 155 (some 0), .cells [.int .i64 i] 3 (some 0), .cells (cellsL (finL G)) 72 (some 0), .cells [.slice (some ⟨h0.length + 2, 0, none⟩) (2 * G.n) (2 * G.n)] 215 (some 0)]) ++ List.replicate (1 + 2 * G.n) .dead
def walkV (h0 : List O) : Value := .func (.func 212) #[] #[.pointer (some ⟨h0.length + 1, 0, none⟩), .pointer (some ⟨h0.length + 3, 0, none⟩), .pointer (some ⟨h0.length, 0, none⟩)]
structure WkI (h0 : List O) (pl : Nat) (i : Int) (N mb : Nat) (es : List MapEntry) (fin : Nat → Nat × Nat) (seen : List Nat) (H : List O) (e : List (Nat × Nat)) : Prop where
 sub : Sub h0 H
 b0 : AtB H h0.length (.cells [.pointer (some ⟨pl, 0, none⟩)] 155 (some 0))
 b1 : AtB H (h0.length + 1) (.cells [.int .i64 i] 3 (some 0))
 b2 : AtB H (h0.length + 2) (.cells (cellsL e) 72 (some 0))
 b3 : AtB H (h0.length + 3) (.cells [.slice (some ⟨h0.length + 2, 0, none⟩) N N] 215 (some 0))
 b4 : AtB H (h0.length + 4) (.iter (some mb) N seen N)
 len : H.length = h0.length + 5 + seen.length
 own : ∀ b o, h0.length + 5 ≤ b → H[b]? = some o → o.ro = false
 el : e.length = N
 met : ∀ y ∈ es, y.born ∈ seen → ∀ a : Nat, y.val = .int .i64 a → e[a]? = some (fin a)
 nd : seen.Nodup
 mem : ∀ b ∈ seen, ∃ y ∈ es, y.born = b
variable {E : Env} (hE : OE E)
include hE
theorem walk_ (hW : E.S 148 = none) {h0 : List O} {pl n : Nat} {x : Nat → Nat → Int} {s : Nat → Int} {L : Int} (hl : LnkP h0 pl n x s L) (hS : Snd n x s L) (i : Int) :
  PC E 148 [.pointer (some ⟨pl, 0, none⟩), .int .i64 i] ⟨h0, h0.length⟩ fun o s' => o = .ret (walkV h0) ∧ WeakK 4 ⟨h0, h0.length⟩ s' ⟨walkM h0 pl i (dgOf n x s L), h0.length⟩ := by
 refine PC_fn (hE.F _ _ rfl) hW ?_
 obtain ⟨G, hGe⟩ : ∃ G, G = dgOf n x s L := ⟨_, rfl⟩
 have hG : GoodG G := by rw [hGe]; exact good_of hS
 have hGn : G.n = n := by rw [hGe]; rfl
 have hGs : G.s = s := by rw [hGe]; rfl
 have hsz := hS.size
 obtain ⟨uv, xa, xc, ab, cb, mb, k1, k2, k3, k4, k5, hO, hk'⟩ := hl
 rw [← hGe] at k1 k3 k5 ⊢
 unfold linkC at k1
 obtain ⟨N, hN⟩ : ∃ N, N = 2 * n := ⟨_, rfl⟩
 rw [← hN] at k1 k5
 have hpl := (List.getElem?_eq_some_iff.1 k1).1
 have hk1 : ∀ l, (h0 ++ l)[pl]? = _ := fun l => app_of k1 l
 have e1 : (N : Int) * 16 ≤ 140737488355328 := by omega
 have e2 : (N : Int) < 4611686018427387904 := by omega
 unfold rb148
 refine PW_seqD ?_
 simp
 refine PW_seqD ?_
 simp [rd_at0, rd_at, rd_def, hk1, e1, e2, wrN_at, set_at, List.append_assoc]
 refine PW_seq (PW_seqD ?_)
 obtain ⟨H, hH⟩ : ∃ H, H = h0 ++ [O.cells [.pointer (some ⟨pl, 0, none⟩)] 155 (some 0), .cells [.int .i64 i] 3 (some 0), .cells (rep N [.int .i64 0, .int .i64 0]) 72 (some 0), .cells [.slice (some ⟨h0.length + 2, 0, none⟩) N N] 215 (some 0)] := ⟨_, rfl⟩
 have hlH : H.length = h0.length + 4 := by rw [hH]; simp
 rw [← hH]
 have hb0 : H[h0.length]? = some (.cells [.pointer (some ⟨pl, 0, none⟩)] 155 (some 0)) := by rw [hH, app_at0]; rfl
 have hm0 : H[mb]? = some (.map ((lE G.X s n).map (entG kcII)) N) := by rw [hH]; exact app_of k5 _
 have hp0 : H[pl]? = h0[pl]? := by rw [hH]; exact List.getElem?_append_left hpl
 rw [k1] at hp0
 have eI := rangeVS_ent (f := h0.length) hm0
 simp [rd_def, hb0, hp0, eI]
 have hGN : 2 * G.n = N := by rw [hGn, hN]
 have hpw : ((lE G.X s n).map (entG kcII)).Pairwise fun x y => x.born ≠ y.born := by
  rw [List.pairwise_map]; exact lE_pw _ _ _
 have hallk : ((lE G.X s n).map (entG kcII)).all (fun e => plain1 e.key) = true := by
  rw [List.all_map, List.all_eq_true]; intro y _; rfl
 have hmbl := (List.getElem?_eq_some_iff.1 k5).1
 refine PW_walkE (es := (lE G.X s n).map (entG kcII)) (bm := mb) (r := h0.length + 4) (clock := N) (seen := []) hpw hallk (fun seen fr H => (∃ e, WkI h0 pl i N mb ((lE G.X s n).map (entG kcII)) (finT G) seen H e) ∧ get fr 2 = .pointer (some ⟨h0.length, 0, none⟩) ∧ get fr 3 = .pointer (some ⟨h0.length + 1, 0, none⟩) ∧ get fr 5 = .pointer (some ⟨h0.length + 3, 0, none⟩) ∧ get fr 18 = .pointer (some ⟨h0.length + 4, 0, none⟩)) (by decide) (by omega) ?_ ?_ ?_ ?_
 ·rintro seen fr H ⟨⟨e, hI⟩, g2, g3, g5, g18⟩
  exact ⟨g18, hI.b4, hI.sub _ _ k5⟩
 ·rintro seen fr H y ⟨⟨e, hI⟩, g2, g3, g5, g18⟩ hy hys
  obtain ⟨z, hz, rfl⟩ := List.mem_map.1 hy
  obtain ⟨c, p, hc, hp, hz1, hz2⟩ := lE_is z hz
  have hq := (in_place (hS.sign c hc)).1 hp
  have hX := hG.X c p (by rw [hGn]; exact hc) hq.1
  have hfin := fin_of hG (by rw [hGn]; exact hc) hq.1 (by rw [hGs]; exact hq.2)
  have hXN : G.X c p < N := by rw [← hGN]; exact hX
  have b2 := hI.b2
  have b3 := hI.b3
  have b4 := hI.b4
  unfold AtB at b2 b3 b4
  have hHl := hI.len
  obtain ⟨H2, hH2⟩ : ∃ H2, H2 = H.set (h0.length + 4) (.iter (some mb) N (seen ++ [z.2.2]) N) := ⟨_, rfl⟩
  have hl2 : H2.length = H.length := by rw [hH2]; exact List.length_set
  have c2 : H2[h0.length + 2]? = some (.cells (cellsL e) 72 (some 0)) := by rw [hH2]; exact set_ne b2 (by omega)
  have c3 : H2[h0.length + 3]? = some (.cells [.slice (some ⟨h0.length + 2, 0, none⟩) N N] 215 (some 0)) := by rw [hH2]; exact set_ne b3 (by omega)
  have c4 : H2[h0.length + 4]? = some (.iter (some mb) N (seen ++ [z.2.2]) N) := by rw [hH2]; exact set_self b4
  have cm : H2[mb]? = some (.map ((lE G.X s n).map (entG kcII)) N) := by rw [hH2]; exact set_ne (hI.sub _ _ k5) (by omega)
  have eE := entryVS_E (f := h0.length) (x := entG kcII z) c4 cm (by simp [entG]) hpw hallk (List.mem_map.2 ⟨z, hz, rfl⟩)
  have ek : (entG kcII z).key = .agg #[.int .i64 c, .int .i64 p] := by unfold entG; rw [hz1]; rfl
  have ev : (entG kcII z).val = .int .i64 (G.X c p) := by unfold entG; rw [hz2]
  have eb : (entG kcII z).born = z.2.2 := rfl
  rw [ek, ev] at eE
  rw [ek, ev, eb, ← hH2]
  have cll := cellsL_len e
  have hel := hI.el
  have hroom : G.X c p * 2 + 2 ≤ (cellsL e).length := by omega
  have hse := cellsL_set (e := e) (a := G.X c p) (x := (c, p)) (by omega)
  simp only [cells2, setL_cons, setL_nil] at hse
  have hmin : min h0.length H2.length = h0.length := by omega
  have hmin2 : min h0.length (h0.length + 2) = h0.length := by omega
  have c2' : ∀ l, (H2 ++ l)[h0.length + 2]? = _ := fun l => app_of c2 l
  have c3' : ∀ l, (H2 ++ l)[h0.length + 3]? = _ := fun l => app_of c3 l
  simp [g2, g3, g5, g18, eE, wrN_at0, set_at0, rd_def, c3', rdN_at0, hXN, wrN_def, c2', hroom, hse, hmin, hmin2, app_at0]
  have hbz : z.2.2 ∉ seen := hys
  refine ⟨e.set (G.X c p) (c, p), ((by rw [hH2]; exact hI.sub.set (by omega) _ : Sub h0 H2).app _).set (by omega) _, set_ne (app_of ?_ _) (by omega), set_ne (app_of ?_ _) (by omega), set_self (c2' _), set_ne (c3' _) (by omega), set_ne (app_of c4 _) (by omega), by simp [hl2, hHl]; omega, fun b o hb ho => ?_, by simp [hel], fun y hy' hys' a hya => ?_, ?_, fun b hb => ?_⟩
  ·rw [hH2]; exact set_ne hI.b0 (by omega)
  ·rw [hH2]; exact set_ne hI.b1 (by omega)
  ·rw [List.getElem?_set_ne (by omega)] at ho
   by_cases hbl : b < H2.length
   ·rw [List.getElem?_append_left hbl, hH2, List.getElem?_set_ne (by omega)] at ho
    exact hI.own b o hb ho
   ·rw [List.getElem?_append_right (by omega)] at ho
    have h1 := (List.getElem?_eq_some_iff.1 ho).1
    simp at h1
    rw [show b - H2.length = 0 by omega] at ho
    simp at ho
    rw [← ho]; rfl
  ·obtain ⟨y0, hy0, rfl⟩ := List.mem_map.1 hy'
   have hyb : (entG kcII y0).born = y0.2.2 := rfl
   have hyv : (entG kcII y0).val = y0.2.1 := rfl
   obtain ⟨c', p', hc', hp', hy1, hy2⟩ := lE_is y0 hy0
   rw [hyv, hy2] at hya
   have hqa := (in_place (hS.sign c' hc')).1 hp'
   have hXa := hG.X c' p' (by rw [hGn]; exact hc') hqa.1
   simp only [Value.int.injEq, true_and] at hya
   have haX : a = G.X c' p' := by omega
   by_cases ea : a = G.X c p
   ·rw [ea, List.getElem?_set_self (by omega), hfin]
   ·rw [List.getElem?_set_ne (Ne.symm ea)]
    rcases List.mem_append.1 hys' with h1 | h1
    ·exact hI.met _ hy' h1 a (by rw [hyv, hy2, haX])
    ·simp at h1
     rw [hyb] at h1
     have := pw_eq (f := fun w : (Nat × Nat) × Value × Nat => w.2.2) (lE_pw G.X s n) hy0 hz h1
     subst this
     rw [hz2] at hy2
     simp only [Value.int.injEq, true_and] at hy2
     omega
  ·rw [List.nodup_append]
   refine ⟨hI.nd, by simp, fun a ha b hb => ?_⟩
   simp at hb
   rw [hb]; intro e'; rw [e'] at ha; exact hbz ha
  ·rcases List.mem_append.1 hb with h1 | h1
   ·exact hI.mem b h1
   ·simp at h1
    exact ⟨_, hy, h1.symm⟩
 ·rintro seen fr H' ⟨⟨e, hI⟩, g2, g3, g5, g18⟩ hall
  refine PW_of_DW ?_
  simp [g2, g3, g5, endK_ret]
  unfold pairQ back
  rw [if_neg (by simp [Out.scalar, scalar, flat1, flat])]
  have hbn : ((lE G.X s n).map fun w => w.2.2).Nodup := by
   have := lE_pw G.X s n
   exact List.pairwise_map.2 this
  have hlen : seen.length = N := by
   have a1 := nodup_le hI.nd (l := (lE G.X s n).map fun w => w.2.2) fun b hb => by
    obtain ⟨y, hy, rfl⟩ := hI.mem b hb
    obtain ⟨z, hz, rfl⟩ := List.mem_map.1 hy
    exact List.mem_map.2 ⟨z, hz, rfl⟩
   have a2 := nodup_le hbn (l := seen) fun b hb => by
    obtain ⟨z, hz, rfl⟩ := List.mem_map.1 hb
    exact hall _ (List.mem_map.2 ⟨z, hz, rfl⟩)
   rw [List.length_map, lE_length] at a1 a2
   omega
  have hfl : e = finL G := by
   apply List.ext_getElem?
   intro a
   by_cases ha : a < N
   ·obtain ⟨c, p, hcp⟩ : ∃ c p, (c, p) = finT G a := ⟨_, _, rfl⟩
    obtain ⟨t0, t1, t2, t3, x1, x2, _⟩ := hG.T a (by omega)
    have hd := (hG.dir a (by omega)).2
    have hc : G.T a 2 < n := by rw [← hGn]; exact t2
    obtain ⟨b, hb⟩ := lE_has (X := G.X) (s := s) hc ((in_place (hS.sign _ hc)).2 ⟨t3, by rw [← hGs]; exact hd⟩)
    have hm := hI.met (entG kcII _) (List.mem_map.2 ⟨_, hb, rfl⟩) (hall _ (List.mem_map.2 ⟨_, hb, rfl⟩)) a (by show Value.int .i64 (G.X (G.T a 2) (G.T a 3)) = _; rw [x2])
    rw [hm]
    simp [finL, hGN, ha]
   ·rw [List.getElem?_eq_none (by have := hI.el; omega), List.getElem?_eq_none (by simp [finL, hGN]; omega)]
  have hHl := hI.len
  refine ⟨rfl, rfl, by simp [walkM, hHl, hGN, hlen]; omega, fun b hb => ?_, fun b hb hb2 => ?_⟩
  ·simp only at hb ⊢
   unfold walkM
   rw [List.getElem?_append_left (by simp; omega)]
   rw [List.getElem?_set_ne (by omega)]
   by_cases h1 : b < h0.length
   ·rw [List.getElem?_append_left h1, hI.sub b h0[b] (List.getElem?_eq_getElem h1), List.getElem?_eq_getElem h1]
   ·obtain ⟨d, rfl⟩ : ∃ d, b = h0.length + d := ⟨b - h0.length, by omega⟩
    rw [app_at]
    match d, (show d < 4 by omega) with
    | 0, _ => exact hI.b0.symm
    | 1, _ => exact hI.b1.symm
    | 2, _ => rw [← hfl]; exact hI.b2.symm
    | 3, _ => rw [hGN]; exact hI.b3.symm
  ·simp only [walkM, List.length_append, List.length_cons, List.length_nil, List.length_replicate] at hb hb2 ⊢
   refine ⟨?_, fun o ho => ?_⟩
   ·rw [List.getElem?_append_right (by simp; omega), List.getElem?_replicate, if_pos]
    simp at hb2 ⊢
    omega
   ·by_cases h1 : b = h0.length + 4
    ·rw [h1, List.getElem?_set_self (by omega)] at ho
     obtain rfl := Option.some.inj ho
     rfl
    ·rw [List.getElem?_set_ne (by omega)] at ho
     exact hI.own b o (by omega) ho
 ·have hrep : ∀ k, rep k [Value.int .i64 0, .int .i64 0] = cellsL (List.replicate k (0, 0)) := fun k => by
   induction k with
   | zero => rfl
   | succ k ih =>
    show (List.replicate (k + 1) [Value.int .i64 0, .int .i64 0]).flatten = _
    rw [List.replicate_succ, List.flatten_cons, List.replicate_succ]
    show _ ++ rep k [Value.int .i64 0, .int .i64 0] = cells2 (0, 0) ++ cellsL (List.replicate k (0, 0))
    rw [ih]; rfl
  have hiter : (H ++ [O.iter (some mb) N [] N])[h0.length + 4]? = some (.iter (some mb) N [] N) := by rw [← hlH, app_at0]; rfl
  refine ⟨⟨List.replicate N (0, 0), fun b o hb => app_of (by rw [hH]; exact app_of hb _) _, app_of hb0 _, app_of (by rw [hH, app_at]; rfl) _, app_of (by rw [hH, app_at, ← hrep]; rfl) _, app_of (by rw [hH, app_at]; rfl) _, hiter, by simp [hlH], fun b o hb ho => ?_, by simp, fun y _ hy => by simp at hy, List.nodup_nil, fun b hb => by simp at hb⟩, ?_⟩
  ·have := (List.getElem?_eq_some_iff.1 ho).1
   simp [hlH] at this
   omega
  ·simp [hlH]
end Go.Proofs.Ytjlkndkedknocaa
namespace Go.Ai
theorem and3 {p : Nat} (hp : p < 4) : binV .and (.int .i64 ((p : Int) + 2)) (.int .i64 3) = some (.int .i64 (((p + 2) % 4 : Nat) : Int)) := by
 match p, hp with
 | 0, _ => rfl
 | 1, _ => rfl
 | 2, _ => rfl
 | 3, _ => rfl
end Go.Ai
namespace Go.Proofs.Ytjlkndkedknocaa
open Go Go.Ai
attribute [local instance] Classical.propDecidable
theorem cellsL_two : ∀ {l : List (Nat × Nat)} {j : Nat} {x : Nat × Nat}, l[j]? = some x → j * 2 + 2 ≤ (cellsL l).length ∧ ((cellsL l).drop (j * 2)).take 2 = cells2 x ∧ (cellsL l)[j * 2]? = some (.int .i64 x.1) ∧ (cellsL l)[j * 2 + 1]? = some (.int .i64 x.2)
 | [], j, x, h => by simp at h
 | y :: l, 0, x, h => by
  simp at h
  subst h
  have e : cellsL (y :: l) = cells2 y ++ cellsL l := rfl
  rw [e]
  simp [cells2]
 | y :: l, j + 1, x, h => by
  simp at h
  obtain ⟨h1, h2, h3, h4⟩ := cellsL_two h
  have e : cellsL (y :: l) = cells2 y ++ cellsL l := rfl
  rw [e, show (j + 1) * 2 = j * 2 + 2 by omega]
  simp only [cells2, List.cons_append, List.nil_append, List.length_cons, List.drop_succ_cons, List.getElem?_cons_succ, show j * 2 + 2 + 1 = (j * 2 + 1) + 2 by omega]
  exact ⟨by omega, h2, h3, h4⟩
theorem finL_at {G : Dg} {a : Nat} (h : a < 2 * G.n) : (finL G)[a]? = some (finT G a) := by simp [finL, h]
variable {E : Env} (hE : OE E)
include hE
theorem walk1_ {G : Dg} (hG : GoodG G) {pl k pf pe pL eb N m a0 : Nat} (ha0 : a0 < 2 * G.n) (hm : 0 < m) (hmend : itr (nx G) a0 m = a0) (hmid : ∀ i, 0 < i → i < m → itr (nx G) a0 i ≠ a0)
  {I : Nat → List O → Nat → Prop}
  (hdi : ∀ i h f, I i h f → h[pf]? = some (.cells [.int .i64 a0] 3 (some 0)) ∧ h[pe]? = some (.cells [.slice (some ⟨eb, 0, none⟩) (2 * G.n) (2 * G.n)] 215 (some 0)) ∧ h[eb]? = some (.cells (cellsL (finL G)) 72 (some 0)) ∧
   h[pL]? = some (.cells [.pointer (some ⟨pl, 0, none⟩)] 155 (some 0)) ∧ (∃ uv xa xc L av cnt cv kk mv, h[pl]? = some (.cells (linkC uv xa G.n xc L av cnt cv kk mv) 170 (some 0)) ∧ CrossP h xa G.n (fun i j => G.X i j) G.s) ∧ (0 < i → f < N))
  (hround : ∀ i h f, i < m → I i h f → DC E (yB + k) [endV (finT G (itr (nx G) a0 i))] ⟨h, h.length⟩ fun o st' => o = .ret (.bool true) ∧ I (i + 1) (joined ⟨h, f⟩ st').h (joined ⟨h, f⟩ st').fl)
  {h : List O} (hi : I 0 h h.length) (hN : N = h.length) :
  DC E 212 [tok k, .pointer (some ⟨pf, 0, none⟩), .pointer (some ⟨pe, 0, none⟩), .pointer (some ⟨pL, 0, none⟩)] ⟨h, h.length⟩ fun o st' => o = .ret (.tuple #[]) ∧ I m st'.h st'.fl := by
 refine hE.fnC (body := rb212) rfl ?_
 unfold rb212
 have hN2 := nx_perm hG
 have hsz := hG.size
 obtain ⟨f0, _⟩ := hdi 0 h h.length hi
 simp [rd_def, f0]
 refine DW_loop (fun kk fr st => ∃ i h f, i + kk = m ∧ i < m ∧ st = ⟨h, f⟩ ∧ I i h f ∧ get fr 0 = tok k ∧ get fr 1 = .pointer (some ⟨pf, 0, none⟩) ∧ get fr 2 = .pointer (some ⟨pe, 0, none⟩) ∧ get fr 3 = .pointer (some ⟨pL, 0, none⟩) ∧ get fr 5 = .int .i64 (itr (nx G) a0 i)) ?_ (k := m) ?_
 ·rintro kk fr st ⟨i, h1, f1, hik, him, rfl, hI, g0, g1, g2, g3, g5⟩
  obtain ⟨d1, d2, d3, d4, ⟨uv, xa, xc, L, av, cnt, cv, kc, mv, d5, d6⟩, d7⟩ := hdi _ _ _ hI
  have ha := hN2.itr_lt ha0 i
  have hr := hround i h1 f1 him hI
  have ha1 : itr (nx G) a0 (i + 1) = nx G (itr (nx G) a0 i) := rfl
  generalize itr (nx G) a0 i = a at ha hr ha1 g5
  have ha' : (a : Int) < 2 * (G.n : Int) := by omega
  obtain ⟨c1, c2, c3, c4⟩ := cellsL_two (finL_at ha)
  simp only [cells2] at c2
  simp only [endV] at hr
  simp [g0, g2, g5, rd_def, rdN_def, d2, d3, ha, ha', c1, c2, tok]
  refine hr.imp ?_
  rintro o st' ⟨rfl, hI'⟩
  simp only [callK_ret]
  generalize joined ⟨h1, f1⟩ st' = s1 at hI' ⊢
  obtain ⟨h2, f2⟩ := s1
  simp only at hI' ⊢
  obtain ⟨k1, k2, k3, k4, ⟨uv, xa, xc, L, av, cnt, cv, kc, mv, k5, k6⟩, k7⟩ := hdi _ _ _ hI'
  unfold linkC at k5
  obtain ⟨xb, xo, hxa, hxr⟩ := k6
  obtain rfl := hxa (by omega)
  obtain ⟨t0, t1, t2, t3, _⟩ := hG.T a ha
  have hf2 := k7 (by omega)
  have hq : (G.T a 3 + 2) % 4 < 4 := Nat.mod_lt _ (by omega)
  have hcr := rd_of_rdN (hxr _ t2) (show (G.T a 3 + 2) % 4 < 5 by omega)
  have hv : (crossC (fun j => (G.X (G.T a 2) j : Int)) (G.s (G.T a 2)))[(G.T a 3 + 2) % 4]? = some (.int .i64 (nx G a)) := by
   unfold nx
   generalize (G.T a 3 + 2) % 4 = q at hq ⊢
   match q, hq with
   | 0, _ => rfl
   | 1, _ => rfl
   | 2, _ => rfl
   | 3, _ => rfl
  rw [hv] at hcr
  rw [rd_def] at hcr
  have hw : IntKind.i64.wrap ((G.T a 3 : Int) + 2) = (G.T a 3 : Int) + 2 := by rw [w64_id] <;> omega
  have e1 : (finT G a).1 = G.T a 2 := rfl
  have e2 : (finT G a).2 = G.T a 3 := rfl
  rw [e1] at c3
  rw [e2] at c4
  have t2' : (G.T a 2 : Int) < G.n := by omega
  have hq' : (((G.T a 3 + 2) % 4 : Nat) : Int) < 4 := by omega
  have ha3 := and3 t3
  generalize (G.T a 3 + 2) % 4 = q at hq hcr hq' ha3
  by_cases hend : nx G a = a0
  ·have him' : i + 1 = m := by
    rcases Nat.lt_or_ge (i + 1) m with h | h
    ·exact absurd (ha1.trans hend) (hmid _ (by omega) h)
    ·omega
   subst him'
   have hqf : ¬ (h.length ≤ f2) := by omega
   simp [g0, g1, g2, g3, g5, rd_def, k1, k2, k3, k4, k5, ha, ha', c3, c4, hw, ha3, t2, t2', hq, hq', hcr, hend, endK_ret, back, Out.scalar, scalar, hqf]
   exact hI'
  ·have him' : i + 1 ≠ m := fun e => hend (by rw [← ha1, e]; exact hmend)
   simp [g0, g1, g2, g3, g5, rd_def, k1, k2, k3, k4, k5, ha, ha', c3, c4, hw, ha3, t2, t2', hq, hq', hcr, hend]
   exact ⟨kk - 1, by omega, i + 1, by omega, by omega, h2, f2, ⟨rfl, rfl⟩, hI', rfl, ha1.symm⟩
 ·exact ⟨0, h, h.length, by omega, hm, rfl, hi, by simp [itr]⟩
end Go.Proofs.Ytjlkndkedknocaa
namespace Go.Proofs.Ytjlkndkedknocaa
open Go Go.Ai
attribute [local instance] Classical.propDecidable
def tgt (G : Dg) (a : Nat) (inn : Bool) : Nat × Nat := if inn then (G.T a 2, G.T a 3) else (G.T a 0, G.T a 1)
theorem tgt_in {G : Dg} (hG : GoodG G) {a : Nat} (ha : a < 2 * G.n) (inn : Bool) : (tgt G a inn).1 < G.n ∧ (tgt G a inn).2 < 4 := by
 obtain ⟨t0, t1, t2, t3, _⟩ := hG.T a ha
 cases inn
 ·exact ⟨t0, t1⟩
 ·exact ⟨t2, t3⟩
theorem tgt_hit {G : Dg} (hG : GoodG G) {a i q : Nat} (ha : a < 2 * G.n) (hi : i < G.n) (hq : q < 4) (inn : Bool) : (G.X i q = a ∧ (!outB (G.s i) q) = inn) ↔ (i, q) = tgt G a inn := by
 obtain ⟨t0, t1, t2, t3, x1, x2, hne⟩ := hG.T a ha
 obtain ⟨d1, d2⟩ := hG.dir a ha
 constructor
 ·rintro ⟨h1, h2⟩
  have hc := hG.cover i q hi hq
  rw [h1] at hc
  rcases hc with ⟨e1, e2⟩ | ⟨e1, e2⟩
  ·rw [← e1, ← e2] at d1
   rw [d1] at h2
   subst h2
   simp [tgt, e1.symm, e2.symm]
  ·rw [← e1, ← e2] at d2
   rw [d2] at h2
   subst h2
   simp [tgt, e1.symm, e2.symm]
 ·intro h
  cases inn
  ·simp only [tgt, Bool.false_eq_true, if_false, Prod.mk.injEq] at h
   rw [h.1, h.2]
   exact ⟨x1, by rw [d1]; rfl⟩
  ·simp only [tgt, if_true, Prod.mk.injEq] at h
   rw [h.1, h.2]
   exact ⟨x2, by rw [d2]; rfl⟩
theorem tgt_oth {G : Dg} (hG : GoodG G) {x : Nat × Nat} (hx : InV G x) : tgt G (G.X x.1 x.2) (outB (G.s x.1) x.2) = oth G x := by
 obtain ⟨h1, h2, h3⟩ := hx
 obtain ⟨t0, t1, t2, t3, x1, x2, hne⟩ := hG.T _ h3
 obtain ⟨d1, d2⟩ := hG.dir _ h3
 unfold oth
 rcases hG.cover _ _ h1 h2 with ⟨e1, e2⟩ | ⟨e1, e2⟩
 ·rw [if_pos ⟨e1.symm, e2.symm⟩]
  rw [← e1, ← e2] at d1
  simp [tgt, d1]
 ·rw [if_neg (fun h => hne ⟨by rw [h.1, ← e1], by rw [h.2, ← e2]⟩)]
  rw [← e1, ← e2] at d2
  simp [tgt, d2]
theorem CrossP.reads {h : List O} {b o n : Nat} {x : Nat → Nat → Int} {s : Nat → Int} (hr : ∀ i, i < n → rdN h b (o + i * 5) 5 = some (crossC (x i) (s i))) {i : Nat} (hi : i < n) : (∀ q, q < 4 → rd h b (o + i * 5 + q) = some (.int .i64 (x i q))) ∧ rd h b (o + i * 5 + 4) = some (.int .i64 (s i)) := by
 refine ⟨fun q hq => ?_, ?_⟩
 ·rw [rd_of_rdN (hr i hi) (show q < 5 by omega)]
  match q, hq with
  | 0, _ => rfl
  | 1, _ => rfl
  | 2, _ => rfl
  | 3, _ => rfl
 ·rw [rd_of_rdN (hr i hi) (show 4 < 5 by omega)]; rfl
variable {E : Env} (hE : OE E)
include hE
theorem In_ {h : List O} {x : Nat → Int} {s : Int} {q : Nat} (hs : s = 1 ∨ s = -1) (hq : q < 4) :
  DR E 192 [crossV x s, .int .i64 q] ⟨h, h.length⟩ (.ret (.bool (!outB s q))) ⟨h, h.length⟩ := by
 refine hE.fn (body := rb192) rfl ?_
 unfold rb192
 rcases hs with rfl | rfl
 all_goals
  match q, hq with
  | 0, _ => simp [crossV, rd_at0, outB]
  | 1, _ => simp [crossV, rd_at0, outB]
  | 2, _ => simp [crossV, rd_at0, outB]
  | 3, _ => simp [crossV, rd_at0, outB]
theorem end_ {h0 : List O} {a : Option Addr} {n c : Nat} {x : Nat → Nat → Int} {s : Nat → Int} {L : Int} (hx : CrossP h0 a n x s) (hS : Snd n x s L) {arc : Nat} (ha : arc < 2 * n) (inn : Bool) :
  DR E 213 [dV a n c L, .int .i64 arc, .bool inn] ⟨h0, h0.length⟩ (.ret (endV (tgt (dgOf n x s L) arc inn))) ⟨h0, h0.length⟩ := by
 refine hE.fn (body := rb213) rfl ?_
 unfold rb213
 have hG := good_of hS
 have hxe : ∀ i q, i < n → q < 4 → x i q = (dgOf n x s L).X i q := fun i q hi hq => sound_x hS hi hq
 obtain ⟨G, hGe⟩ : ∃ G, G = dgOf n x s L := ⟨_, rfl⟩
 have hGn : G.n = n := by rw [hGe]; rfl
 have hGs : G.s = s := by rw [hGe]; rfl
 rw [← hGe] at hG hxe ⊢
 have hsz := hG.size
 obtain ⟨xb, xo, hxa, hxr⟩ := hx
 obtain rfl := hxa (by omega)
 obtain ⟨t, ht⟩ : ∃ t, t = tgt G arc inn := ⟨_, rfl⟩
 obtain ⟨ht1, ht2⟩ := tgt_in hG (a := arc) (by omega) inn
 rw [← ht] at ht1 ht2 ⊢
 simp [dV, List.append_assoc]
 obtain ⟨hB, hhB⟩ : ∃ H, H = h0 ++ [O.cells [.slice (some ⟨xb, xo, none⟩) n c, .int .i64 L] 24 (some 0), O.cells [.int .i64 0, .int .i64 0] 72 (some 0)] := ⟨_, rfl⟩
 have hBs : Sub h0 hB := by rw [hhB]; exact (Sub.refl _).app _
 have hB0 : hB[h0.length]? = some (O.cells [.slice (some ⟨xb, xo, none⟩) n c, .int .i64 L] 24 (some 0)) := by rw [hhB, app_at0]; rfl
 have hB1 : hB[h0.length + 1]? = some (O.cells [.int .i64 0, .int .i64 0] 72 (some 0)) := by rw [hhB, app_at]; rfl
 rw [← hhB]
 refine DW_loop (fun kk fr st => ∃ (i : Nat), i + kk = n ∧ st = ⟨hB, h0.length⟩ ∧ 4 * i ≤ 4 * t.1 + t.2 ∧ get fr 1 = .int .i64 arc ∧ get fr 2 = .bool inn ∧ get fr 3 = .pointer (some ⟨h0.length, 0, none⟩) ∧ get fr 6 = .pointer (some ⟨h0.length + 1, 0, none⟩) ∧ get fr 7 = .int .i64 i) ?_ (k := n) ?_
 ·rintro kk fr st ⟨i, hik, rfl, hle, g1, g2, g3, g6, g7⟩
  have hi : i < n := by omega
  obtain ⟨rq, rs⟩ := CrossP.reads (fun i hi => hBs.rdN (hxr i hi)) hi
  have hcr := hBs.rdN (hxr i hi)
  rw [rdN_def] at hcr
  simp only [rd_def] at rq
  simp only [crossC] at hcr
  simp [g1, g2, g3, g6, g7, rd_def, hB0, hi]
  refine DW_loop (fun kk' fr st => ∃ (q : Nat), q + kk' = 4 ∧ st = ⟨hB, h0.length⟩ ∧ 4 * i + q ≤ 4 * t.1 + t.2 ∧ get fr 1 = .int .i64 arc ∧ get fr 2 = .bool inn ∧ get fr 3 = .pointer (some ⟨h0.length, 0, none⟩) ∧ get fr 6 = .pointer (some ⟨h0.length + 1, 0, none⟩) ∧ get fr 7 = .int .i64 i ∧ get fr 8 = .int .i64 q) ?_ (k := 4) ?_
  ·clear g1 g2 g3 g6 g7
   rintro kk' fr st ⟨q, hqk, rfl, hle, g1, g2, g3, g6, g7, g8⟩
   by_cases hq : q < 4
   ·have hq' : (q : Int) < 4 := by omega
    have hw : IntKind.i64.wrap ((q : Int) + 1) = (q : Int) + 1 := by rw [w64_id] <;> omega
    have hsg := hG.sign i (by omega)
    rw [hGs] at hsg
    have hin := fun h => In_ hE (h := h) (x := x i) (s := s i) hsg hq
    simp only [crossV] at hin
    have hit := tgt_hit hG (a := arc) (i := i) (q := q) (by omega) (by omega) hq inn
    rw [hGs, ← ht] at hit
    have hr := rq q hq
    rw [hxe i q hi hq] at hr
    have hmin : min h0.length (h0.length + 1) = h0.length := by omega
    have hself : ∀ o, (hB.set (h0.length + 1) o)[h0.length + 1]? = some o := fun o => set_self hB1
    have fin : (i, q) = t → True := fun _ => trivial
    by_cases he : G.X i q = arc
    ·by_cases hb : (!outB (s i) q) = inn
     ·have htt := hit.1 ⟨he, hb⟩
      have hb' : (outB (s i) q == !inn) = true := by rw [← hb]; simp
      simp [g1, g2, g3, g6, g7, g8, hq', rd_def, hB0, hi, hr, he, rdN_def, hcr, DC_q hin, hb, wrN_def, hB1, hmin, hself, back_scalar, Out.scalar, scalar, flat1, flat]
      rw [← htt]
      rfl
     ·have hne : (i, q) ≠ t := fun e => hb (hit.2 e).2
      have hb2 : ((!outB (s i) q) == inn) = false := by simpa using hb
      have hne2 : 4 * i + q ≠ 4 * t.1 + t.2 := fun e => hne (Prod.ext (by simp only; omega) (by simp only; omega))
      simp [g1, g2, g3, g6, g7, g8, hq', rd_def, hB0, hi, hr, he, rdN_def, hcr, DC_q hin, hb2, hw]
      exact ⟨kk' - 1, by omega, q + 1, by omega, by omega, by omega⟩
    ·have hne : (i, q) ≠ t := fun e => he (hit.2 e).1
     have hne2 : 4 * i + q ≠ 4 * t.1 + t.2 := fun e => hne (Prod.ext (by simp only; omega) (by simp only; omega))
     simp [g1, g2, g3, g6, g7, g8, hq', rd_def, hB0, hi, hr, he, hw]
     exact ⟨kk' - 1, by omega, q + 1, by omega, by omega, by omega⟩
   ·have hq4 : q = 4 := by omega
    subst hq4
    have hw : IntKind.i64.wrap ((i : Int) + 1) = (i : Int) + 1 := by rw [w64_id] <;> omega
    simp [g1, g2, g3, g6, g7, g8, hw]
    exact ⟨kk - 1, by omega, i + 1, by omega, by omega, by omega⟩
  ·exact ⟨0, by omega, rfl, by omega, by simp [g1, g2, g3, g6, g7]⟩
 ·exact ⟨0, by omega, rfl, by omega, by simp⟩
end Go.Proofs.Ytjlkndkedknocaa
namespace Go.Proofs.Ytjlkndkedknocaa
open Go Go.Ai
attribute [local instance] Classical.propDecidable
theorem DC_when {E : Env} {f : FuncId} {args : List Value} {o : Out} {P : List O → Prop} (hq : ∀ h, P h → DR E f args ⟨h, h.length⟩ o ⟨h, h.length⟩) {h : List O} {fl : Nat} (hp : P h) (e : fl = h.length) {Q : Out → St → Prop} : DC E f args ⟨h, fl⟩ Q ↔ Q o ⟨h, fl⟩ := by
 subst e; exact DC_of (hq h hp)
variable {E : Env} (hE : OE E)
include hE
theorem endIn {h0 : List O} {a : Option Addr} {n c : Nat} {x : Nat → Nat → Int} {s : Nat → Int} {L : Int} (hx : CrossP h0 a n x s) (hS : Snd n x s L) {arc : Nat} (ha : arc < 2 * n) :
  DR E 150 [dV a n c L, .int .i64 arc] ⟨h0, h0.length⟩ (.ret (endV (tgt (dgOf n x s L) arc true))) ⟨h0, h0.length⟩ := by
 refine hE.fn (body := rb150) rfl ?_
 unfold rb150
 have hc : ∀ l, CrossP (h0 ++ l) a n x s := fun l => hx.ext (Ext.snoc h0 l)
 have h1 := fun h k => end_ hE (h0 := h) (a := a) (x := x) (c := c) k hS ha true
 simp only [dV, endV] at h1
 simp [dV, rdN_at0, List.append_assoc, DC_when h1, endV, hc, joined_fl, wrN_at, set_at, rdN_at, back_scalar, Out.scalar, scalar, flat1, flat]
theorem other_ {h0 : List O} {a : Option Addr} {n c : Nat} {x : Nat → Nat → Int} {s : Nat → Int} {L : Int} (hx : CrossP h0 a n x s) (hS : Snd n x s L) {e : Nat × Nat} (he : InV (dgOf n x s L) e) :
  DR E 229 [dV a n c L, endV e] ⟨h0, h0.length⟩ (.ret (endV (oth (dgOf n x s L) e))) ⟨h0, h0.length⟩ := by
 refine hE.fn (body := rb229) rfl ?_
 unfold rb229
 have hc : ∀ l, CrossP (h0 ++ l) a n x s := fun l => hx.ext (Ext.snoc h0 l)
 have hG := good_of hS
 have hxe : x e.1 e.2 = (dgOf n x s L).X e.1 e.2 := sound_x hS he.1 he.2.1
 obtain ⟨he1, he2, he3⟩ := id he
 have hsg := hG.sign e.1 he1
 have h1 := fun h k => end_ hE (h0 := h) (a := a) (x := x) (c := c) k hS he3 (outB (s e.1) e.2)
 have hto := tgt_oth hG he
 rw [show (dgOf n x s L).s = s from rfl] at hto
 simp only [hto] at h1
 have hin := fun h => In_ hE (h := h) (x := x e.1) (s := s e.1) hsg he2
 simp only [dV, endV, crossV] at h1 hin
 obtain ⟨xb, xo, hxa, hxr⟩ := hx
 have he1' : e.1 < n := he1
 obtain rfl := hxa (by omega)
 obtain ⟨rq, rs⟩ := CrossP.reads hxr he1'
 have hcr := hxr _ he1'
 have r1 : ∀ l, rd (h0 ++ l) xb (xo + e.1 * 5 + e.2) = some (.int .i64 ((dgOf n x s L).X e.1 e.2)) := fun l => by rw [← hxe]; exact rd_append (rq _ he2) l
 have r2 : ∀ l, rdN (h0 ++ l) xb (xo + e.1 * 5) 5 = some (crossC (x e.1) (s e.1)) := fun l => rdN_append hcr l
 simp only [crossC] at r2
 have he2' : (e.2 : Int) < 4 := by omega
 simp [dV, endV, rdN_at0, rd_at0, List.append_assoc, he1', he2', r1, r2, rd_at, rdN_at, DC_when h1, DC_q hin, hc, joined_fl, wrN_at, set_at, back_scalar, Out.scalar, scalar, flat1, flat]
 exact ⟨by decide, by decide, fun h => absurd h (by decide), fun h => absurd h (by decide)⟩
theorem next2_ {h0 : List O} {a : Option Addr} {n c : Nat} {x : Nat → Nat → Int} {s : Nat → Int} {L : Int} (hx : CrossP h0 a n x s) (hS : Snd n x s L) {arc : Nat} (ha : arc < 2 * n) :
  DR E 143 [dV a n c L, .int .i64 arc] ⟨h0, h0.length⟩ (.ret (.int .i64 (nx (dgOf n x s L) arc))) ⟨h0, h0.length⟩ := by
 refine hE.fn (body := rb143) rfl ?_
 unfold rb143
 have hc : ∀ l, CrossP (h0 ++ l) a n x s := fun l => hx.ext (Ext.snoc h0 l)
 have hG := good_of hS
 have h1 := fun h k => endIn hE (h0 := h) (a := a) (x := x) (c := c) k hS ha
 simp only [dV, endV] at h1
 obtain ⟨t, ht⟩ : ∃ t, t = tgt (dgOf n x s L) arc true := ⟨_, rfl⟩
 obtain ⟨ht1, ht2⟩ := tgt_in hG (a := arc) ha true
 have hnx : nx (dgOf n x s L) arc = (dgOf n x s L).X t.1 ((t.2 + 2) % 4) := by rw [ht]; rfl
 have hsz := hG.size
 rw [hnx]
 rw [← ht] at ht1 ht2 h1
 have ht1' : t.1 < n := ht1
 have hsz' : n ≤ 100000 ∨ True := .inr trivial
 obtain ⟨xb, xo, hxa, hxr⟩ := hx
 obtain rfl := hxa (by omega)
 obtain ⟨rq, rs⟩ := CrossP.reads hxr ht1'
 have hw : IntKind.i64.wrap ((t.2 : Int) + 2) = t.2 + 2 := by rw [w64_id] <;> omega
 have r1 : ∀ l, rd (h0 ++ l) xb (xo + t.1 * 5 + (t.2 + 2) % 4) = some (.int .i64 ((dgOf n x s L).X t.1 ((t.2 + 2) % 4))) := fun l => by rw [← sound_x hS ht1' (by omega)]; exact rd_append (rq _ (by omega)) l
 have hmod : ((t.2 : Int) + 2).tmod 4 = ((t.2 + 2) % 4 : Nat) := tmod_add _ 2 4
 obtain ⟨w, hww⟩ : ∃ w, w = (t.2 + 2) % 4 := ⟨_, rfl⟩
 rw [← hww] at hmod r1 ⊢
 have hlt : (w : Int) < 4 := by omega
 simp [dV, rdN_at0, rd_at, rd_at0, List.append_assoc, DC_when h1, hc, endV, ht1', hw, joined_fl, wrN_at, set_at, back_scalar, Out.scalar, scalar, flat1, flat, hmod, hlt, r1]
end Go.Proofs.Ytjlkndkedknocaa
namespace Go.Proofs.Ytjlkndkedknocaa
open Go Go.Ai
attribute [local instance] Classical.propDecidable
variable {E : Env} (hE : OE E)
include hE
theorem of_ {h0 : List O} {a : Option Addr} {n c : Nat} {x : Nat → Nat → Int} {s : Nat → Int} {L : Int} (hx : CrossP h0 a n x s) (hS : Snd n x s L) :
  DC E 65 [dV a n c L] ⟨h0, h0.length⟩ fun o st' => ∃ (xs : List Int) (k : Nat), o = .ret (.slice (some ⟨h0.length + 1, 0, none⟩) (2 * n) (2 * n)) ∧ h0.length ≤ st'.fl ∧ Sub h0 st'.h ∧
   AtB st'.h (h0.length + 1) (.cells (intsC xs) 3 (some 0)) ∧ OrbI (2 * n) (nx (dgOf n x s L)) (2 * n) k xs ∧ k ≤ 2 * n := by
 refine hE.fnC (body := rb65) rfl ?_
 unfold rb65
 have hG := good_of hS
 obtain ⟨G, hGe⟩ : ∃ G, G = dgOf n x s L := ⟨_, rfl⟩
 have hGn : G.n = n := by rw [hGe]; rfl
 have hN := nx_perm hG
 have hnxt := fun {arc : Nat} (ha : arc < 2 * n) h k => next2_ hE (h0 := h) (a := a) (x := x) (c := c) k hS ha
 simp only [dV] at hnxt
 rw [← hGe] at hG hN ⊢
 simp only [← hGe] at hnxt
 have hsz := hG.size
 rw [hGn] at hsz hN
 obtain ⟨hB, hhB⟩ : ∃ H, H = h0 ++ [O.cells [.slice a n c, .int .i64 L] 24 (some 0)] := ⟨_, rfl⟩
 have lB : hB.length = h0.length + 1 := by rw [hhB]; simp
 have sB : Sub h0 hB := by rw [hhB]; exact (Sub.refl _).app _
 have bB : hB[h0.length]? = some (O.cells [.slice a n c, .int .i64 L] 24 (some 0)) := by rw [hhB, app_at0]; rfl
 have e0 : (0 : Int) ≤ 2 * n := by omega
 have e1 : 2 * (n : Int) * 8 ≤ 140737488355328 := by omega
 have e2 : 2 * (n : Int) < 4611686018427387904 := by omega
 have e3 : (2 * (n : Int)).toNat = 2 * n := by omega
 have hw0 : IntKind.i64.wrap (2 * (n : Int)) = 2 * n := by rw [w64_id] <;> omega
 simp [dV, rd_at0, e0, e1, e2, e3, hw0, List.append_assoc]
 obtain ⟨m, hm0⟩ : ∃ m, m = h0.length + 1 := ⟨_, rfl⟩
 rw [← hm0] at lB ⊢
 refine DW_loop (fun kk fr st => ∃ (i : Nat) (h : List O) (xs : List Int), i + kk = 2 * n ∧ st = ⟨h, h0.length⟩ ∧ Sub hB h ∧ AtB h m (.cells (intsC xs) 3 (some 0)) ∧ xs.length = 2 * n ∧ (∀ j, j < i → nth xs j = -1) ∧ get fr 1 = .pointer (some ⟨h0.length, 0, none⟩) ∧ get fr 4 = .slice (some ⟨m, 0, none⟩) (2 * n) (2 * n) ∧ get fr 3 = .int .i64 (2 * n) ∧ get fr 5 = .int .i64 i) ?_ (k := 2 * n) ?_
 ·rintro kk fr st ⟨i, h, xs, hik, rfl, hsub, hatB, hlen, hm, g1, g4, g3, g5⟩
  have hat := hatB
  unfold AtB at hat
  by_cases hi : i < 2 * n
  ·have hi' : (i : Int) < 2 * n := by omega
   have hw : IntKind.i64.wrap ((i : Int) + 1) = (i : Int) + 1 := by rw [w64_id] <;> omega
   have hi2 : i < xs.length := by omega
   have hi3 : i + 1 ≤ 2 * n := by omega
   have hmin : min h0.length m = h0.length := by omega
   simp [g1, g4, g3, g5, hi, hi', wrN_def, hat, hlen, intsC_set, hw, hi3, hmin]
   refine ⟨kk - 1, by omega, i + 1, by omega, hsub.set (by omega) _, xs.set i (-1), set_self hat, by simp [hlen], fun j hj => ?_, by omega⟩
   rw [nth_set hi2]
   by_cases e : j = i
   ·rw [if_pos e]
   ·rw [if_neg e]; exact hm j (by omega)
  ·have hin : i = 2 * n := by omega
   subst hin
   simp [g1, g4, g3, g5]
   have hO := OrbI.start (f := nx G) hlen (fun j hj => hm j hj)
   refine DW_loop (fun kk fr st => ∃ (i : Nat) (h : List O) (xs : List Int) (cnt : Nat), i + kk = 2 * n ∧ st = ⟨h, h0.length⟩ ∧ Sub hB h ∧ AtB h m (.cells (intsC xs) 3 (some 0)) ∧ OrbI (2 * n) (nx G) i cnt xs ∧ cnt ≤ i ∧ get fr 1 = .pointer (some ⟨h0.length, 0, none⟩) ∧ get fr 4 = .slice (some ⟨m, 0, none⟩) (2 * n) (2 * n) ∧ get fr 6 = .int .i64 cnt ∧ get fr 3 = .int .i64 (2 * n) ∧ get fr 7 = .int .i64 i) ?_ (k := 2 * n) ?_
   ·clear g1 g4 g3 g5 hO hm hlen hat hatB hsub hik
    clear xs h
    rintro kk fr st ⟨i, h, xs, cnt, hik, rfl, hsub, hatB, hO, hcnt, g1, g4, g6, g3, g7⟩
    have hat := hatB
    unfold AtB at hat
    have hlen := hO.len
    by_cases hi : i < 2 * n
    ·have hi' : (i : Int) < 2 * n := by omega
     have hw : IntKind.i64.wrap ((i : Int) + 1) = (i : Int) + 1 := by rw [w64_id] <;> omega
     have hi2 : i < xs.length := by omega
     by_cases hf : 0 ≤ nth xs i
     ·simp [g1, g4, g6, g3, g7, hi, hi', rd_def, hat, intsC_get hi2, hf, hw]
      exact ⟨kk - 1, by omega, i + 1, by omega, hsub, xs, hatB, cnt, hO.skip hf, by omega, rfl, by omega⟩
     ·have hneg : nth xs i < 0 := by omega
      simp [g1, g4, g6, g3, g7, hi, hi', rd_def, hat, intsC_get hi2, hf]
      obtain ⟨P, ⟨p1, p2, p3⟩, p4⟩ := hN.period hi
      refine DW_loop (fun kk' fr st => ∃ (t : Nat) (h : List O) (xs' : List Int), t + kk' = P ∧ st = ⟨h, h0.length⟩ ∧ Sub hB h ∧ AtB h m (.cells (intsC xs') 3 (some 0)) ∧ OrbT (2 * n) (nx G) i cnt t xs xs' ∧ get fr 1 = .pointer (some ⟨h0.length, 0, none⟩) ∧ get fr 4 = .slice (some ⟨m, 0, none⟩) (2 * n) (2 * n) ∧ get fr 6 = .int .i64 cnt ∧ get fr 3 = .int .i64 (2 * n) ∧ get fr 7 = .int .i64 i ∧ get fr 8 = .int .i64 (itr (nx G) i t)) ?_ (k := P) ?_
      ·clear g1 g4 g6 g3 g7
       rintro kk' fr st ⟨t, h', xs', htk, rfl, hsub', hatB', hT, g1, g4, g6, g3, g7, g8⟩
       have hat' := hatB'
       unfold AtB at hat'
       have hb := hN.itr_lt hi t
       have hb' : ((itr (nx G) i t : Nat) : Int) < 2 * n := by omega
       have hb2 : itr (nx G) i t < xs'.length := by rw [hT.len]; exact hb
       have hb3 : itr (nx G) i t + 1 ≤ 2 * n := by omega
       by_cases ht : t < P
       ·have hng := hT.neg hN hO hi hneg p4 ht
        have hnx := hnxt hb
        have hss : ∀ o, Sub hB (h'.set m o) := fun o => hsub'.set (by omega) o
        have hcs : ∀ o, CrossP (h'.set m o) a n x s := fun o => hx.sub (sB.trans (hss o))
        have hbx : ∀ o, (h'.set m o)[h0.length]? = some (O.cells [.slice a n c, .int .i64 L] 24 (some 0)) := fun o => hss o _ _ bB
        have hmin : min h0.length m = h0.length := by omega
        simp [g1, g4, g6, g3, g7, g8, hb', rd_def, wrN_def, hat', intsC_get hb2, hng, intsC_set, hT.len, hb3, hmin, rdN_def, hbx, DC_when hnx, hcs, joined_fl]
        exact ⟨kk' - 1, by omega, t + 1, by omega, hsub'.set (by omega) _, _, set_self hat', hT.next hb, rfl⟩
       ·have : t = P := by omega
        subst this
        have hng : ¬ nth xs' (itr (nx G) i t) < 0 := by
         rw [hT.at_, if_pos ⟨0, p1, by rw [p2]; rfl⟩]; omega
        have hw2 : IntKind.i64.wrap ((cnt : Int) + 1) = (cnt : Int) + 1 := by rw [w64_id] <;> omega
        simp [g1, g4, g6, g3, g7, g8, hb', rd_def, hat', intsC_get hb2, hng, hw, hw2]
        exact ⟨kk - 1, by omega, i + 1, by omega, hsub', xs', hatB', cnt + 1, hT.finish hN hO hi hneg p1 p2, by omega, by omega, by omega⟩
      ·exact ⟨0, h, xs, by omega, rfl, hsub, hatB, OrbT.start hO, by simp [g1, g4, g6, g3, g7, itr]⟩
    ·have hin : i = 2 * n := by omega
     have hi' : ¬ (i : Int) < 2 * n := by omega
     simp [g1, g4, g6, g3, g7, hi', endK_ret]
     unfold pairQ back
     rw [if_neg (by simp [Out.scalar, scalar, flat1, flat])]
     rw [hin] at hO hcnt
     exact ⟨rfl, Nat.le_refl _, sB.trans hsub, xs, hatB, cnt, hO, hcnt⟩
   ·exact ⟨0, h, xs, 0, by omega, rfl, hsub, hatB, hO, by omega, by simp [g1, g4, g3]⟩
 ·refine ⟨0, _, List.replicate (2 * n) 0, by omega, rfl, ?_, ?_, by simp, fun j h => by omega, by simp⟩
  ·rw [hhB]
   exact (Ext.sub ⟨[O.cells (rep (2 * n) [.int .i64 0]) 3 (some 0)], by simp⟩)
  ·unfold AtB
   rw [hm0, app_at]
   simp [rep, intsC]
end Go.Proofs.Ytjlkndkedknocaa
namespace Go.Proofs.Ytjlkndkedknocaa
open Go Go.Ai
attribute [local instance] Classical.propDecidable
variable {E : Env} (hE : OE E)
include hE
theorem count_ {h0 : List O} {a : Option Addr} {n c : Nat} {x : Nat → Nat → Int} {s : Nat → Int} {L : Int} (hx : CrossP h0 a n x s) (hS : Snd n x s L) :
  DC E 31 [dV a n c L] ⟨h0, h0.length⟩ fun o st' => ∃ (xs : List Int) (k : Nat), OrbI (2 * n) (nx (dgOf n x s L)) (2 * n) k xs ∧ k ≤ 2 * n ∧ o = .ret (.int .i64 (k + L)) ∧ st' = ⟨h0, h0.length⟩ := by
 refine hE.fnC (body := rb31) rfl ?_
 unfold rb31
 have hG := good_of hS
 have hsz : n ≤ 200 := hG.size
 have hL : 0 ≤ L ∧ L ≤ 200 := hG.loops
 have h1 := of_ hE (c := c) (hx.ext (Ext.snoc h0 [O.cells [.slice a n c, .int .i64 L] 24 (some 0)])) hS
 simp [dV] at h1
 simp [dV, rdN_at0]
 refine h1.imp ?_
 rintro o ⟨h2, f2⟩ ⟨rfl, hf, hs, xs, hat, k, hO, hk⟩
 simp only at hf hs hat
 have hbox : h2[h0.length]? = some (O.cells [.slice a n c, .int .i64 L] 24 (some 0)) := hs _ _ (app_at0 _ _)
 obtain ⟨m, hm⟩ : ∃ m, m = h0.length + 1 + 1 := ⟨_, rfl⟩
 have hlen := hO.len
 unfold AtB at hat
 simp [joined_fl, hf]
 rw [← hm] at hat ⊢
 refine DW_loop (fun kk fr st => ∃ (i w : Nat), i + kk = 2 * n ∧ st = ⟨h2, h0.length⟩ ∧ (∀ j, j < i → nth xs j + 1 ≤ w) ∧ w ≤ k ∧ get fr 1 = .pointer (some ⟨h0.length, 0, none⟩) ∧ get fr 3 = .slice (some ⟨m, 0, none⟩) (2 * n) (2 * n) ∧ get fr 4 = .int .i64 w ∧ get fr 5 = .int .i64 i) ?_ (k := 2 * n) ?_
 ·rintro kk fr st ⟨i, w, hik, rfl, hw, hwk, g1, g3, g4, g5⟩
  by_cases hi : i < 2 * n
  ·have hi' : (i : Int) < 2 * n := by omega
   have hwr : IntKind.i64.wrap ((i : Int) + 1) = (i : Int) + 1 := by rw [w64_id] <;> omega
   have hi2 : i < xs.length := by omega
   have hd := hO.done i hi
   have hv : nth xs i < k := by rcases hO.val i hi with h | h <;> omega
   have hwr2 : IntKind.i64.wrap (nth xs i + 1) = nth xs i + 1 := by rw [w64_id] <;> omega
   simp [g1, g3, g4, g5, hi, hi', rd_def, hat, intsC_get hi2, hwr, hwr2]
   refine ⟨kk - 1, by omega, i + 1, by omega, max w ((nth xs i).toNat + 1), fun j hj => ?_, by omega, by omega, by omega⟩
   by_cases e : j = i
   ·rw [e]; omega
   ·have := hw j (by omega); omega
  ·have hin : i = 2 * n := by omega
   have hi' : ¬ (i : Int) < 2 * n := by omega
   have hwk2 : w = k := by
    apply Classical.byContradiction
    intro hne
    obtain ⟨a', ha1, ha2, _⟩ := hO.ord w (by omega)
    have := hw a' (by omega)
    omega
   have hwr : IntKind.i64.wrap ((k : Int) + L) = k + L := by rw [w64_id] <;> omega
   subst hwk2
   simp [g1, g3, g4, g5, hi', rd_def, hbox, hwr, back_scalar, Out.scalar, scalar, flat1, flat]
   exact ⟨⟨xs, hO⟩, hk⟩
 ·exact ⟨0, 0, by omega, rfl, fun j hj => by omega, by omega, by simp⟩
end Go.Proofs.Ytjlkndkedknocaa
namespace Go.Ai
theorem slice_read {h : List O} {b size n : Nat} {cs : List Value} {el : TypeId} {own : Option Nat} (hb : h[b]? = some (.cells cs el own)) (hl : cs.length = n * size) : readSlice h size n (some ⟨b, 0, none⟩) = some cs := by
 simp only [readSlice]
 split
 ·rename_i h0'
  have : cs = [] := List.length_eq_zero_iff.1 (by omega)
  rw [this]
 ·simp [rdN, hb, hl]
  exact List.take_of_length_le (by omega)
def OwnT (h : List O) (lo : Nat) (v : Value) (k : Nat) (cs : List Value) (el : TypeId) (size : Nat) : Prop := (v = emptyS ∧ k = 0 ∧ cs = []) ∨ OwnS h lo v k cs el size
theorem OwnT.keep {h h' : List O} {lo k : Nat} {v : Value} {cs : List Value} {el : TypeId} {size : Nat} (ho : OwnT h lo v k cs el size) (hk : ∀ b s, v = .slice (some ⟨b, 0, none⟩) k k → lo ≤ b → h[b]? = some (.cells cs el (some s)) → h'[b]? = some (.cells cs el (some s))) : OwnT h' lo v k cs el size := by
 rcases ho with h1 | ⟨h0, h1 | ⟨b, s, h1, h2, h3, h4⟩⟩
 ·exact .inl h1
 ·exact .inr ⟨h0, .inl h1⟩
 ·exact .inr ⟨h0, .inr ⟨b, s, h1, h2, hk b s h1 h2 h3, h4⟩⟩
theorem OwnT.len {h : List O} {lo k : Nat} {v : Value} {cs : List Value} {el : TypeId} {size : Nat} (ho : OwnT h lo v k cs el size) : cs.length = k * size := by
 rcases ho with ⟨_, rfl, rfl⟩ | h1
 ·simp
 ·exact h1.1
theorem OwnT.look {h : List O} {lo k : Nat} {v : Value} {cs : List Value} {el : TypeId} {size : Nat} (ho : OwnT h lo v k cs el size) : ∃ a, v = .slice a k k ∧ (0 < k → ∃ b s, a = some ⟨b, 0, none⟩ ∧ lo ≤ b ∧ h[b]? = some (.cells cs el (some s))) := by
 rcases ho with ⟨rfl, rfl, rfl⟩ | ⟨_, ⟨rfl, rfl⟩ | ⟨b, s, rfl, h2, h3, h4⟩⟩
 ·exact ⟨_, rfl, fun h => absurd h (by omega)⟩
 ·exact ⟨_, rfl, fun h => absurd h (by omega)⟩
 ·exact ⟨_, rfl, fun _ => ⟨b, s, rfl, h2, h3⟩⟩
theorem append_T {H : List O} {lo k n fl c : Nat} {v : Value} {cs new : List Value} {el : TypeId} {size bytes : Nat} {xb : Option Addr}
  (ho : OwnT H lo v k cs el size) (hx : readSlice H size n xb = some new) (hnew : new.length = n * size) (hone : new.all one1 = true) (hlo : lo ≤ H.length) (hroom : (k + n) * bytes ≤ roomMax) (hn : 0 < n) :
  ∃ b' H' fl', appendV el size bytes v (.slice xb n c) ⟨H, fl⟩ = some (.slice (some ⟨b', 0, none⟩) (k + n) (k + n), ⟨H', fl'⟩) ∧ H.length ≤ b' ∧ OwnT H' lo (.slice (some ⟨b', 0, none⟩) (k + n) (k + n)) (k + n) (cs ++ new) el size ∧ min fl lo ≤ fl' ∧ fl' ≤ fl ∧ H.length ≤ H'.length ∧
   (∀ (b : Nat) (o : O), H[b]? = some o → (b < lo ∨ ∀ c : List Value, ∀ s, o ≠ .cells c el s) → H'[b]? = some o) := by
 rcases ho with ⟨rfl, rfl, rfl⟩ | ho
 ·refine ⟨H.length, H ++ [.cells ([] ++ new) el (some size)], fl, ?_, Nat.le_refl _, .inr ⟨?_, .inr ⟨H.length, size, rfl, hlo, ?_, .inr rfl⟩⟩, by omega, Nat.le_refl _, by simp, fun b o e _ => app_of e _⟩
  ·simp only [appendV, emptyS, hx, bind, Option.bind_some, appendCells]
   rw [if_neg (by omega), if_neg (by omega), if_pos ⟨hroom, hone⟩]
   simp [readSlice, kill]
  ·simp [hnew]
  ·simp
 ·obtain ⟨b', H', fl', h1, h2, h3, h4, h5, h6, h7⟩ := append_S (fl := fl) (c := c) (bytes := bytes) ho hx hnew hone hlo hroom hn
  refine ⟨b', H', fl', h1, h2, .inr h3, h4, h5, h6, fun b o e hd => h7 b o e fun n' c' ev => ?_⟩
  subst ev
  rcases ho.2 with ⟨e1, _⟩ | ⟨b2, s, e1, e2, e3, _⟩
  ·cases e1
  ·simp only [Value.slice.injEq, Option.some.injEq, Addr.mk.injEq] at e1
   obtain ⟨⟨rfl, _⟩, _⟩ := e1
   rw [e3] at e
   obtain rfl := Option.some.inj e
   rcases hd with hd | hd
   ·omega
   ·exact hd _ _ rfl
end Go.Ai
namespace Go.Proofs.Ytjlkndkedknocaa
open Go Go.Ai
attribute [local instance] Classical.propDecidable
theorem cellsL_length (l : List (Nat × Nat)) : (cellsL l).length = l.length * 2 := by
 induction l with
 | nil => rfl
 | cons x l ih =>
  have : cellsL (x :: l) = cells2 x ++ cellsL l := rfl
  rw [this, List.length_append, ih]; simp [cells2]; omega
theorem cellsL_at {l : List (Nat × Nat)} {j : Nat} {x : Nat × Nat} (h : l[j]? = some x) : ((cellsL l).drop (j * 2)).take 2 = cells2 x := by
 induction l generalizing j with
 | nil => simp at h
 | cons y l ih =>
  have e : cellsL (y :: l) = .int .i64 y.1 :: .int .i64 y.2 :: cellsL l := rfl
  rw [e]
  cases j with
  | zero => simp at h; subst h; rfl
  | succ j =>
   rw [show (j + 1) * 2 = j * 2 + 2 by omega, List.drop_succ_cons, List.drop_succ_cons]
   exact ih (by simpa using h)
theorem orbN_at {G : Dg} {e : Nat × Nat} {i j : Nat} (h : j < i) : (orbN G e i)[j]? = some (orb G e j) := by simp [orbN, h]
variable {E : Env} (hE : OE E)
include hE
theorem has_ {h : List O} {b n c : Nat} {l : List (Nat × Nat)} {el : TypeId} {own : Option Nat} (hb : 0 < n → h[b]? = some (.cells (cellsL l) el own)) (hn : l.length = n) (hlt : n < 1000000) (e : Nat × Nat) :
  DR E 225 [.slice (some ⟨b, 0, none⟩) n c, endV e] ⟨h, h.length⟩ (.ret (.bool (decide (e ∈ l)))) ⟨h, h.length⟩ := by
 refine hE.fn (body := rb225) rfl ?_
 unfold rb225
 simp [endV]
 obtain ⟨hB, hhB⟩ : ∃ H, H = h ++ [O.cells [.int .i64 e.1, .int .i64 e.2] 72 (some 0)] := ⟨_, rfl⟩
 have sB : Sub h hB := by rw [hhB]; exact (Sub.refl _).app _
 have bB : hB[h.length]? = some (O.cells [.int .i64 e.1, .int .i64 e.2] 72 (some 0)) := by rw [hhB, app_at0]; rfl
 rw [← hhB]
 have hcl := cellsL_length l
 refine DW_loop (fun kk fr st => ∃ (i : Nat), i + kk = n ∧ st = ⟨hB, h.length⟩ ∧ (∀ j, j < i → l[j]? ≠ some e) ∧ get fr 0 = .slice (some ⟨b, 0, none⟩) n c ∧ get fr 3 = .pointer (some ⟨h.length, 0, none⟩) ∧ get fr 5 = .int .i64 i) ?_ (k := n) ?_
 ·rintro kk fr st ⟨i, hik, rfl, hm, g0, g3, g5⟩
  by_cases hi : i < n
  ·have hw : IntKind.i64.wrap ((i : Int) + 1) = (i : Int) + 1 := by rw [w64_id] <;> omega
   obtain ⟨y, hy⟩ : ∃ y, l[i]? = some y := ⟨l[i], by simp⟩
   have hat := sB _ _ (hb (by omega))
   have hc := cellsL_at hy
   simp only [cells2] at hc
   have hle : i * 2 + 2 ≤ (cellsL l).length := by omega
   by_cases hv : y = e
   ·subst hv
    simp [g0, g3, g5, hi, rdN_def, hat, bB, hc, hle, back_scalar, Out.scalar, scalar, flat1, flat]
    exact List.mem_of_getElem? hy
   ·have hv' : (decide (y.1 = e.1) && decide (y.2 = e.2)) = false := by
     rw [Bool.and_eq_false_iff, decide_eq_false_iff_not, decide_eq_false_iff_not]
     by_cases h1 : y.1 = e.1
     ·exact .inr fun h2 => hv (Prod.ext h1 h2)
     ·exact .inl h1
    simp [g0, g3, g5, hi, rdN_def, hat, bB, hc, hle, hw, hv']
    refine ⟨kk - 1, by omega, i + 1, by omega, fun j hj => ?_, by omega⟩
    by_cases ej : j = i
    ·rw [ej, hy]; exact fun e' => hv (Option.some.inj e')
    ·exact hm j (by omega)
  ·have hin : i = n := by omega
   subst hin
   simp [g0, g3, g5, back_scalar, Out.scalar, scalar, flat1, flat]
   intro hmem
   obtain ⟨j, hj, hje⟩ := List.getElem_of_mem hmem
   exact hm j (by omega) (by rw [List.getElem?_eq_getElem hj, hje])
 ·exact ⟨0, by omega, rfl, fun j h => by omega, by simp⟩
end Go.Proofs.Ytjlkndkedknocaa
namespace Go.Proofs.Ytjlkndkedknocaa
open Go Go.Ai
attribute [local instance] Classical.propDecidable
noncomputable def wordP (G : Dg) (x : Nat × Nat) : List Int := if x.2 = 0 then [gen G (G.X x.1 1) * G.s x.1] else []
noncomputable def ownP (G : Dg) (k : Int) (x : Nat × Nat) : Int := if x.2 = 0 ∧ nth (cpL G) (G.X x.1 1) = k then G.s x.1 else 0
def RndP (h : List O) (f base k N p8 p11 : Nat) (ws : List Int) (sm : Int) (st' : St) : Prop :=
 ∃ h' f' ov', joined ⟨h, f⟩ st' = ⟨h', f'⟩ ∧ base ≤ f' ∧ f' ≤ k ∧ h'[p8]? = some (.cells [ov'] 34 (some 0)) ∧ h'[p11]? = some (.cells [.int .i64 sm] 3 (some 0)) ∧
  OwnT h' N ov' ws.length (intsC ws) 3 1 ∧ h.length ≤ h'.length ∧ ∀ (b : Nat) (o : O), b < N → h[b]? = some o → b ≠ p8 → b ≠ p11 → h'[b]? = some o
variable {E : Env} (hE : OE E)
include hE
theorem roundL_ {h hL : List O} {f k pl n N base dB pc p7 p8 p11 i xc : Nat} {xa : Option Addr} {x : Nat → Nat → Int} {s : Nat → Int} {L : Int} {frL : Fr} {c p : Nat} {ws : List Int} {sm comp : Int} {ov : Value}
  (hk : h[k]? = some (.loop false 98 frL [44] (lcA 70 0) (lcB 70 0))) (g2 : get frL 2 = .pointer (some ⟨dB, 0, none⟩)) (g3 : get frL 3 = .pointer (some ⟨pc, 0, none⟩)) (g7 : get frL 7 = .pointer (some ⟨p7, 0, none⟩)) (g8 : get frL 8 = .pointer (some ⟨p8, 0, none⟩)) (g11 : get frL 11 = .pointer (some ⟨p11, 0, none⟩))
  (hl : LnkP hL pl n x s L) (hS : Snd n x s L) (hs : Sub hL h) (hdB : hL[dB]? = some (.cells [.slice xa n xc, .int .i64 L] 24 (some 0))) (hx : CrossP hL xa n x s) (hpc : hL[pc]? = some (.cells [.int .i64 comp] 3 (some 0)))
  (h7 : h[p7]? = some (.cells [.pointer (some ⟨pl, 0, none⟩)] 155 (some 0))) (h8 : h[p8]? = some (.cells [ov] 34 (some 0))) (h11 : h[p11]? = some (.cells [.int .i64 sm] 3 (some 0)))
  (hov : OwnT h N ov ws.length (intsC ws) 3 1) (hN : N ≤ h.length) (hws : ws.length ≤ 1000) (hsm : -1000 ≤ sm ∧ sm ≤ 1000) (hc : c < n) (hp : p < 4)
  (b0 : hL.length ≤ base) (b7 : p7 < N) (b8 : base ≤ p8) (b11 : base ≤ p11) (bk : base ≤ k) (bf : base ≤ f) (l7 : k < N) (l8 : p8 < N) (l11 : p11 < N) (n1 : p7 ≠ p8) (n2 : p7 ≠ p11) (n3 : p8 ≠ p11) :
  DC E (yB + k) [endV (c, p)] ⟨h, h.length⟩ fun o st' => o = .ret (.bool true) ∧ RndP h f base k N p8 p11 (ws ++ wordP (dgOf n x s L) (c, p)) (sm + ownP (dgOf n x s L) comp (c, p)) st' := by
 have lk := (List.getElem?_eq_some_iff.1 hk).1
 have m1 : k ≠ p7 := fun e => by subst e; rw [hk] at h7; cases h7
 have m2 : k ≠ p8 := fun e => by subst e; rw [hk] at h8; cases h8
 have m3 : k ≠ p11 := fun e => by subst e; rw [hk] at h11; cases h11
 obtain ⟨G, hGe⟩ : ∃ G, G = dgOf n x s L := ⟨_, rfl⟩
 have hG : GoodG G := by rw [hGe]; exact good_of hS
 have hGn : G.n = n := by rw [hGe]; rfl
 have hGs : G.s = s := by rw [hGe]; rfl
 have hX : ∀ i q, i < n → q < 4 → x i q = (G.X i q : Int) := fun i q hi hq => by rw [hGe]; exact sound_x hS hi hq
 have hsz := hS.size
 rw [← hGe]
 refine DC_yield (hE.Y k) hk rfl hE.c70_0a hE.c70_0b ?_
 unfold ra70_0
 simp [putAll, endV, wrN_at0, set_at0]
 obtain ⟨H0, hH0⟩ : ∃ H, H = h ++ [O.cells [.int .i64 c, .int .i64 p] 72 (some 0)] := ⟨_, rfl⟩
 have k0 : H0[k]? = some (.loop false 98 frL [44] (lcA 70 0) (lcB 70 0)) := by rw [hH0]; exact app_of hk _
 rw [← hH0]
 refine ⟨_, turn_eq k0, ?_⟩
 obtain ⟨H1, hH1⟩ : ∃ H, H = H0.set k (O.loop (!false) 98 frL [44] (lcA 70 0) (lcB 70 0)) := ⟨_, rfl⟩
 have K1 : ∀ (b : Nat) (o : O), h[b]? = some o → b ≠ k → H1[b]? = some o := fun b o hb hn => by rw [hH1]; exact set_ne (by rw [hH0]; exact app_of hb _) hn
 have L1 : H1.length = h.length + 1 := by rw [hH1, hH0]; simp
 have a9 : H1[h.length]? = some (.cells [.int .i64 c, .int .i64 p] 72 (some 0)) := by rw [hH1]; exact set_ne (by rw [hH0, app_at0]; rfl) (by omega)
 have kk1 : H1[k]? = some (.loop true 98 frL [44] (lcA 70 0) (lcB 70 0)) := by rw [hH1]; exact set_self k0
 have s1 : Sub hL H1 := by rw [hH1, hH0]; exact (hs.app _).set (by omega) _
 rw [← hH1]
 unfold rl70_0
 have hlow : min (min h.length k) k < h.length := by omega
 by_cases hp0 : p = 0
 ·subst hp0
  obtain ⟨xb, xo, hxa, hxr⟩ := hx
  obtain rfl := hxa (by omega)
  have hcr : rdN H1 xb (xo + c * 5) 5 = some (crossC (x c) (s c)) := s1.rdN (hxr c hc)
  rw [rdN_def] at hcr
  simp only [crossC] at hcr
  rw [hX c 0 hc (by omega), hX c 1 hc (by omega), hX c 2 hc (by omega), hX c 3 hc (by omega)] at hcr
  have d1 := s1 _ _ hdB
  have dc := s1 _ _ hpc
  obtain ⟨H2, hH2⟩ : ∃ H, H = H1 ++ [O.cells [.int .i64 (G.X c 0), .int .i64 (G.X c 1), .int .i64 (G.X c 2), .int .i64 (G.X c 3), .int .i64 (s c)] 107 (some 0)] := ⟨_, rfl⟩
  have L2 : H2.length = H1.length + 1 := by rw [hH2]; simp
  have K2 : ∀ (b : Nat) (o : O), H1[b]? = some o → H2[b]? = some o := fun b o hb => by rw [hH2]; exact app_of hb _
  have s2 : Sub hL H2 := fun b o hb => K2 _ _ (s1 b o hb)
  have q2 : H2[H1.length]? = some (O.cells [.int .i64 (G.X c 0), .int .i64 (G.X c 1), .int .i64 (G.X c 2), .int .i64 (G.X c 3), .int .i64 (s c)] 107 (some 0)) := by rw [hH2, app_at0]; rfl
  have hXlt := hG.X c 1 (by rw [hGn]; exact hc) (by omega)
  rw [hGn] at hXlt
  have hg := generator_ hE (hl.sub s2) hsz hXlt
  rw [← hGe] at hg
  have hgq : (arN G (G.X c 1) : Int) + 1 = gen G (G.X c 1) := rfl
  rw [hgq] at hg
  have hgv := gen_le hG (by rw [hGn]; exact hc) (show 1 < 4 by omega)
  have hac := arC_le G
  rw [hGn] at hac
  have w1 : IntKind.i64.wrap (gen G (G.X c 1) * s c) = gen G (G.X c 1) * s c := by
   rcases hS.sign c hc with e | e <;> rw [e] <;> rw [w64_id] <;> omega
  have e1 : wordP G (c, 0) = [gen G (G.X c 1) * s c] := by unfold wordP; rw [if_pos rfl, hGs]
  obtain ⟨H3, hH3⟩ : ∃ H, H = H2 ++ [O.cells [.int .i64 (gen G (G.X c 1) * s c)] 3 (some 0)] := ⟨_, rfl⟩
  have L3 : H3.length = H2.length + 1 := by rw [hH3]; simp
  have K3 : ∀ (b : Nat) (o : O), H2[b]? = some o → H3[b]? = some o := fun b o hb => by rw [hH3]; exact app_of hb _
  have hov3 : OwnT H3 N ov ws.length (intsC ws) 3 1 := hov.keep fun b s' _ hb e => K3 _ _ (K2 _ _ (K1 _ _ e (by omega)))
  have hread : readSlice H3 1 1 (some ⟨H2.length, 0, none⟩) = some [.int .i64 (gen G (G.X c 1) * s c)] := by rw [hH3]; simp [readSlice, rdN_at0]
  obtain ⟨b', H4, f4, happ, hb', hown, hf1, hf2, hL4, K4⟩ := append_T (fl := min h.length k) (c := 1) (bytes := 8) hov3 hread (by simp) (by simp) (by omega) (by simp only [roomMax]; omega) (by omega)
  have r2 := K2 _ _ (K1 _ _ h8 (Ne.symm m2))
  have r7 := K2 _ _ (K1 _ _ h7 (Ne.symm m1))
  have r11 := K2 _ _ (K1 _ _ h11 (Ne.symm m3))
  have r4 := K4 _ _ (K3 _ _ r2) (.inl l8)
  have kk4 := K4 _ _ (K3 _ _ (K2 _ _ kk1)) (.inl l7)
  obtain ⟨H5, hH5⟩ : ∃ H, H = H4.set p8 (O.cells [.slice (some ⟨b', 0, none⟩) (ws.length + 1) (ws.length + 1)] 34 (some 0)) := ⟨_, rfl⟩
  have kk5 : H5[k]? = some (.loop true 98 frL [44] (lcA 70 0) (lcB 70 0)) := by rw [hH5]; exact set_ne kk4 m2
  have t7 : H5[p7]? = some (.cells [.pointer (some ⟨pl, 0, none⟩)] 155 (some 0)) := by rw [hH5]; exact set_ne (K4 _ _ (K3 _ _ r7) (.inl b7)) n1
  have t11 : H5[p11]? = some (.cells [.int .i64 sm] 3 (some 0)) := by rw [hH5]; exact set_ne (K4 _ _ (K3 _ _ r11) (.inl l11)) (Ne.symm n3)
  have t13 : H5[H1.length]? = some (O.cells [.int .i64 (G.X c 0), .int .i64 (G.X c 1), .int .i64 (G.X c 2), .int .i64 (G.X c 3), .int .i64 (s c)] 107 (some 0)) := by
   rw [hH5]
   exact set_ne (K4 _ _ (K3 _ _ q2) (.inr fun c s e => by cases e)) (by omega)
  have s5 : Sub hL H5 := fun b o hb => by
   have := (List.getElem?_eq_some_iff.1 hb).1
   rw [hH5]
   exact set_ne (K4 _ _ (K3 _ _ (s2 b o hb)) (.inl (by omega))) (by omega)
  have dc5 := s5 _ _ hpc
  obtain ⟨uv, xa', xc', ab, cb, mb, z1, z2, z3, z4, z5, hO, hk'⟩ := hl.sub s5
  rw [← hGe] at z1 z4
  unfold linkC at z1
  have hcl : G.X c 1 < (cpL G).length := by have := hO.len; rw [← hGe] at this; omega
  have hX' : (G.X c 1 : Int) < 2 * (n : Int) := by omega
  have hq : h.length + 1 = H1.length := L1.symm
  rw [e1]
  have hend : ∀ (H6 : List O) (f6 : Nat) (sm' : Int), sm' = sm + ownP G comp (c, 0) → H6[k]? = some (.loop true 98 frL [44] (lcA 70 0) (lcB 70 0)) → H6[p11]? = some (.cells [.int .i64 sm'] 3 (some 0)) → (∀ b o, H5[b]? = some o → b ≠ p11 → H6[b]? = some o) → H6.length = H5.length → base ≤ f6 → f6 ≤ h.length →
    ∃ st4, turn true k ⟨H6, f6⟩ = some st4 ∧ RndP h f base k N p8 p11 (ws ++ [gen G (G.X c 1) * s c]) (sm + ownP G comp (c, 0)) st4 := fun H6 f6 sm' hsm' u1 u2 u3 u4 u5 u6 => by
   refine ⟨_, turn_eq u1, ?_⟩
   have hlow6 : min f6 k < h.length := by omega
   refine ⟨H6.set k (.loop (!true) 98 frL [44] (lcA 70 0) (lcB 70 0)), min f (min f6 k), .slice (some ⟨b', 0, none⟩) (ws.length + 1) (ws.length + 1), by simp only [joined]; rw [if_pos hlow6], by omega, by omega, ?_, ?_, ?_, ?_, fun b o hbN hb hn1 hn2 => ?_⟩
   ·refine set_ne (u3 _ _ ?_ n3) (Ne.symm m2)
    rw [hH5]; exact set_self r4
   ·rw [← hsm']; exact set_ne u2 (Ne.symm m3)
   ·have : OwnT H4 N (.slice (some ⟨b', 0, none⟩) (ws.length + 1) (ws.length + 1)) (ws ++ [gen G (G.X c 1) * s c]).length (intsC (ws ++ [gen G (G.X c 1) * s c])) 3 1 := by simpa [intsC] using hown
    refine this.keep fun b s' e1 e2 e3 => set_ne (u3 _ _ ?_ (by omega)) (by omega)
    rw [hH5]; exact set_ne e3 (by omega)
   ·rw [List.length_set, u4, hH5, List.length_set]; omega
   ·by_cases hbk : b = k
    ·subst hbk
     rw [hk] at hb
     obtain rfl := Option.some.inj hb
     exact set_self u1
    ·refine set_ne (u3 _ _ ?_ hn2) hbk
     rw [hH5]
     exact set_ne (K4 _ _ (K3 _ _ (K2 _ _ (K1 _ _ hb hbk))) (.inl hbN)) hn1
  have hmin : min f4 p8 ≤ h.length := by omega
  have hminA : min k H1.length = k := by omega
  by_cases hcomp : nth (cpL G) (G.X c 1) = comp
  ·have e2 : ownP G comp (c, 0) = s c := by unfold ownP; rw [if_pos ⟨rfl, hcomp⟩, hGs]
   have hw2 : IntKind.i64.wrap (sm + s c) = sm + s c := by rcases hS.sign c hc with e | e <;> rw [e] <;> rw [w64_id] <;> omega
   simp [g2, g3, g7, g8, g11, rd_def, rdN_def, a9, d1, dc, hc, hcr, wrN_at0, set_at0, app_at0, ← hH2, ← L2, r2, r7, q2, hminA, DC_of hg, bit, w1, ← hH3, happ, wrN_def, r4, ← hH5, t7, t13, z1, hX', hXlt, z4, intsC_get hcl, hcomp, dc5, t11, hw2]
   exact hend _ _ (sm + s c) (by rw [e2]) (set_ne kk5 m3) (set_self t11) (fun b o hb hn => set_ne hb hn) List.length_set (by omega) (by omega)
  ·have e2 : ownP G comp (c, 0) = 0 := by unfold ownP; rw [if_neg fun h => hcomp h.2]
   simp [g2, g3, g7, g8, g11, rd_def, rdN_def, a9, d1, dc, hc, hcr, wrN_at0, set_at0, app_at0, ← hH2, ← L2, r2, r7, q2, hminA, DC_of hg, bit, w1, ← hH3, happ, wrN_def, r4, ← hH5, t7, t13, z1, hX', hXlt, z4, intsC_get hcl, hcomp, dc5]
   exact hend H5 _ sm (by rw [e2, Int.add_zero]) kk5 t11 (fun b o hb _ => hb) rfl (by omega) (by omega)
 ·have hpz : ¬ (p : Int) = 0 := by omega
  have e1 : wordP G (c, p) = [] := if_neg hp0
  have e2 : ownP G comp (c, p) = 0 := if_neg (fun h => hp0 h.1)
  rw [e1, e2, List.append_nil, Int.add_zero]
  simp [rd_def, a9, hpz, hp0]
  refine ⟨_, turn_eq kk1, ?_⟩
  refine ⟨H1.set k (.loop (!true) 98 frL [44] (lcA 70 0) (lcB 70 0)), min f (min (min h.length k) k), ov, by simp only [joined]; rw [if_pos hlow], by omega, by omega, ?_, ?_, ?_, ?_, fun b o hbN hb hn1 hn2 => ?_⟩
  ·exact set_ne (K1 _ _ h8 (Ne.symm m2)) (Ne.symm m2)
  ·exact set_ne (K1 _ _ h11 (Ne.symm m3)) (Ne.symm m3)
  ·exact hov.keep fun b s' _ hb e => set_ne (K1 _ _ e (by omega)) (by omega)
  ·rw [List.length_set]; omega
  ·by_cases hbk : b = k
   ·subst hbk
    rw [hk] at hb
    obtain rfl := Option.some.inj hb
    exact set_self kk1
   ·exact set_ne (K1 _ _ hb hbk) hbk
end Go.Proofs.Ytjlkndkedknocaa
namespace Go.Proofs.Ytjlkndkedknocaa
open Go Go.Ai
attribute [local instance] Classical.propDecidable
noncomputable def perA (G : Dg) (a : Nat) : Nat := if h : ∃ P, (0 < P ∧ itr (nx G) a P = a ∧ P ≤ 2 * G.n) ∧ ∀ t, 0 < t → t < P → itr (nx G) a t ≠ a then h.choose else 1
theorem perA_spec {G : Dg} (hG : GoodG G) {a : Nat} (ha : a < 2 * G.n) : (0 < perA G a ∧ itr (nx G) a (perA G a) = a ∧ perA G a ≤ 2 * G.n) ∧ ∀ t, 0 < t → t < perA G a → itr (nx G) a t ≠ a := by
 have h := (nx_perm hG).period ha
 unfold perA
 rw [dif_pos h]
 exact h.choose_spec
noncomputable def wordT (G : Dg) (a : Nat) : Nat → List Int
 | 0 => []
 | i + 1 => wordT G a i ++ wordP G (finT G (itr (nx G) a i))
noncomputable def ownT (G : Dg) (k : Int) (a : Nat) : Nat → Int
 | 0 => 0
 | i + 1 => ownT G k a i + ownP G k (finT G (itr (nx G) a i))
theorem wordT_len (G : Dg) (a : Nat) : ∀ i, (wordT G a i).length ≤ i := by
 intro i
 induction i with
 | zero => exact Nat.le_refl _
 | succ i ih =>
  simp only [wordT, List.length_append, wordP]
  split
  ·simp; omega
  ·simp; omega
theorem ownT_le {G : Dg} (hG : GoodG G) {k : Int} {a : Nat} (ha : a < 2 * G.n) : ∀ i : Nat, -(i : Int) ≤ ownT G k a i ∧ ownT G k a i ≤ i := by
 intro i
 induction i with
 | zero => simp [ownT]
 | succ i ih =>
  obtain ⟨t0, t1, t2, t3, _⟩ := hG.T _ ((nx_perm hG).itr_lt ha i)
  have hs := hG.sign _ t2
  simp only [ownT, ownP]
  have e : (finT G (itr (nx G) a i)).1 = G.T (itr (nx G) a i) 2 := rfl
  rw [e]
  split
  ·rcases hs with h | h <;> rw [h] <;> omega
  ·omega
theorem joined_min {H h : List O} {f g : Nat} (h1 : f ≤ g) (h2 : g < H.length) : joined ⟨H, f⟩ ⟨h, g⟩ = ⟨h, f⟩ := by
 simp only [joined]
 rw [if_pos h2, Nat.min_eq_left h1]
variable {E : Env} (hE : OE E)
include hE
theorem rangeL_ {h hL : List O} {f0 pl n dB pc p7 p8 p11 pf pe pL eb xc a0 : Nat} {xa : Option Addr} {x : Nat → Nat → Int} {s : Nat → Int} {L : Int} {fr : Fr} {comp : Int} {ov : Value} {Q : Post}
  (g43 : get fr 43 = .func (.func 212) #[] #[.pointer (some ⟨pf, 0, none⟩), .pointer (some ⟨pe, 0, none⟩), .pointer (some ⟨pL, 0, none⟩)])
  (g2 : get fr 2 = .pointer (some ⟨dB, 0, none⟩)) (g3 : get fr 3 = .pointer (some ⟨pc, 0, none⟩)) (g7 : get fr 7 = .pointer (some ⟨p7, 0, none⟩)) (g8 : get fr 8 = .pointer (some ⟨p8, 0, none⟩)) (g11 : get fr 11 = .pointer (some ⟨p11, 0, none⟩))
  (hl : LnkP hL pl n x s L) (hS : Snd n x s L) (hs : Sub hL h) (hdB : hL[dB]? = some (.cells [.slice xa n xc, .int .i64 L] 24 (some 0))) (hx : CrossP hL xa n x s) (hpc : hL[pc]? = some (.cells [.int .i64 comp] 3 (some 0)))
  (h7 : h[p7]? = some (.cells [.pointer (some ⟨pl, 0, none⟩)] 155 (some 0))) (h8 : h[p8]? = some (.cells [emptyS] 34 (some 0))) (h11 : h[p11]? = some (.cells [.int .i64 0] 3 (some 0)))
  (ha0 : a0 < 2 * n) (hf : h[pf]? = some (.cells [.int .i64 a0] 3 (some 0))) (he : h[pe]? = some (.cells [.slice (some ⟨eb, 0, none⟩) (2 * n) (2 * n)] 215 (some 0))) (heb : h[eb]? = some (.cells (cellsL (finL (dgOf n x s L))) 72 (some 0))) (hLp : h[pL]? = some (.cells [.pointer (some ⟨pl, 0, none⟩)] 155 (some 0)))
  (l0 : f0 ≤ hL.length) (l8 : hL.length ≤ p8) (l11 : hL.length ≤ p11) (n1 : p7 ≠ p8) (n2 : p7 ≠ p11) (n3 : p8 ≠ p11) (n4 : pf ≠ p11)
  (hQ : ∀ h' ov', (∀ (b : Nat) (o : O), h[b]? = some o → b ≠ p8 → b ≠ p11 → h'[b]? = some o) → h'[p8]? = some (.cells [ov'] 34 (some 0)) → h'[p11]? = some (.cells [.int .i64 (ownT (dgOf n x s L) comp a0 (perA (dgOf n x s L) a0))] 3 (some 0)) →
   OwnT h' h.length ov' (wordT (dgOf n x s L) a0 (perA (dgOf n x s L) a0)).length (intsC (wordT (dgOf n x s L) a0 (perA (dgOf n x s L) a0))) 3 1 → Q .normal fr ⟨h', f0⟩) :
  DW E (.rangeF (.tmp 43) [44] 98 (lcA 70 0) (lcB 70 0)) fr ⟨h, f0⟩ Q := by
 obtain ⟨G, hGe⟩ : ∃ G, G = dgOf n x s L := ⟨_, rfl⟩
 have hG : GoodG G := by rw [hGe]; exact good_of hS
 have hGn : G.n = n := by rw [hGe]; rfl
 have hGs : G.s = s := by rw [hGe]; rfl
 have hsz := hS.size
 rw [← hGe] at heb hQ
 have haG : a0 < 2 * G.n := by rw [hGn]; exact ha0
 obtain ⟨⟨pm, pend, ple⟩, pmid⟩ := perA_spec hG haG
 have lp8 := (List.getElem?_eq_some_iff.1 h8).1
 have lp11 := (List.getElem?_eq_some_iff.1 h11).1
 have lp7 := (List.getElem?_eq_some_iff.1 h7).1
 have lpf := (List.getElem?_eq_some_iff.1 hf).1
 have lpe := (List.getElem?_eq_some_iff.1 he).1
 have leb := (List.getElem?_eq_some_iff.1 heb).1
 have lpL := (List.getElem?_eq_some_iff.1 hLp).1
 have hsl := hs.len
 refine DW_rangeF (f := 212) (vs := [tok h.length, .pointer (some ⟨pf, 0, none⟩), .pointer (some ⟨pe, 0, none⟩), .pointer (some ⟨pL, 0, none⟩)]) (by simp [g43]) (by decide) ?_
 obtain ⟨hK, hhK⟩ : ∃ H, H = h ++ [O.loop false 98 fr [44] (lcA 70 0) (lcB 70 0)] := ⟨_, rfl⟩
 have lK : hK.length = h.length + 1 := by rw [hhK]; simp
 have KK : ∀ (b : Nat) (o : O), h[b]? = some o → hK[b]? = some o := fun b o hb => by rw [hhK]; exact app_of hb _
 have kk : hK[h.length]? = some (.loop false 98 fr [44] (lcA 70 0) (lcB 70 0)) := by rw [hhK, app_at0]; rfl
 rw [← hhK, ← lK]
 have hlsub := fun (h' : List O) (hk : Sub hL h') => hl.sub hk
 have key := walk1_ hE hG (pl := pl) (k := h.length) (pf := pf) (pe := pe) (pL := pL) (eb := eb) (N := hK.length) (m := perA G a0) haG pm pend pmid
  (I := fun i h' f' => hL.length ≤ f' ∧ (0 < i → f' < hK.length) ∧ hK.length ≤ h'.length ∧ (∀ (b : Nat) (o : O), hK[b]? = some o → b ≠ p8 → b ≠ p11 → h'[b]? = some o) ∧
   ∃ ov, h'[p8]? = some (.cells [ov] 34 (some 0)) ∧ h'[p11]? = some (.cells [.int .i64 (ownT G comp a0 i)] 3 (some 0)) ∧ OwnT h' hK.length ov (wordT G a0 i).length (intsC (wordT G a0 i)) 3 1)
  ?_ ?_ (h := hK) ?_ rfl
 ·refine key.imp ?_
  rintro o ⟨h', f'⟩ ⟨rfl, i1, i2, i3, i4, ov, i5, i6, i7⟩
  simp only at i1 i2 i3 i4 i5 i6 i7
  have hf := i2 pm
  refine ⟨⟨_, rfl⟩, ⟨h'.set h.length .dead, f0⟩, ?_, ?_⟩
  ·have hfm : min f0 h.length = f0 := by omega
   rw [joined_min (f := f0) (H := hK) (h := h') (by omega) hf, over_eq (i4 _ _ kk (by omega) (by omega)), hfm]
  ·refine hQ (h'.set h.length .dead) ov (fun b o hb h1 h2 => ?_) ?_ ?_ ?_
   ·have := (List.getElem?_eq_some_iff.1 hb).1
    exact set_ne (i4 _ _ (KK _ _ hb) h1 h2) (by omega)
   ·exact set_ne i5 (by omega)
   ·exact set_ne i6 (by omega)
   ·have : OwnT h' h.length ov (wordT G a0 (perA G a0)).length (intsC (wordT G a0 (perA G a0))) 3 1 := by
     rcases i7 with h1 | ⟨h1, h2 | ⟨b, s', h3, h4, h5, h6⟩⟩
     ·exact .inl h1
     ·exact .inr ⟨h1, .inl h2⟩
     ·exact .inr ⟨h1, .inr ⟨b, s', h3, by omega, h5, h6⟩⟩
    rcases i7 with h1 | ⟨h1, h2 | ⟨b, s', h3, h4, h5, h6⟩⟩
    ·exact .inl h1
    ·exact .inr ⟨h1, .inl h2⟩
    ·exact .inr ⟨h1, .inr ⟨b, s', h3, by omega, set_ne h5 (by omega), h6⟩⟩
 ·rintro i h' f' ⟨i1, i2, i3, i4, _⟩
  have hsub' : Sub hL h' := fun b o hb => by
   have := (List.getElem?_eq_some_iff.1 hb).1
   exact i4 _ _ (KK _ _ (hs b o hb)) (by omega) (by omega)
  have hp8n : ∀ b c el, h[b]? = some (.cells c el (some 0)) → el ≠ 34 → b ≠ p8 := fun b c el hb hne e => by
   subst e; rw [hb] at h8; simp at h8; exact hne h8.2
  have hp11n : ∀ b c el, h[b]? = some (.cells c el (some 0)) → el ≠ 3 → b ≠ p11 := fun b c el hb hne e => by
   subst e; rw [hb] at h11; simp at h11; exact hne h11.2
  refine ⟨i4 _ _ (KK _ _ hf) (hp8n _ _ _ hf (by decide)) n4, ?_, ?_, ?_, ?_, i2⟩
  ·rw [hGn]; exact i4 _ _ (KK _ _ he) (hp8n _ _ _ he (by decide)) (hp11n _ _ _ he (by decide))
  ·exact i4 _ _ (KK _ _ heb) (hp8n _ _ _ heb (by decide)) (hp11n _ _ _ heb (by decide))
  ·exact i4 _ _ (KK _ _ hLp) (hp8n _ _ _ hLp (by decide)) (hp11n _ _ _ hLp (by decide))
  ·obtain ⟨uv, xa', xc', ab, cb, mb, z1, z2, z3, z4, z5, hO, hk'⟩ := hl.sub hsub'
   refine ⟨uv, xa', xc', L, _, _, _, _, _, by rw [hGn]; exact z1, ?_⟩
   rw [hGn, hGs]
   obtain ⟨xb, xo, y1, y2⟩ := z2
   refine ⟨xb, xo, y1, fun i hi => ?_⟩
   rw [y2 i hi, crossC_toNat hS hi, hGe]
   rfl
 ·rintro i h' f' him ⟨i1, i2, i3, i4, ov, i5, i6, i7⟩
  have hsub' : Sub hL h' := fun b o hb => by
   have := (List.getElem?_eq_some_iff.1 hb).1
   exact i4 _ _ (KK _ _ (hs b o hb)) (by omega) (by omega)
  obtain ⟨t0, t1, t2, t3, _⟩ := hG.T _ ((nx_perm hG).itr_lt haG i)
  have hwl := wordT_len G a0 i
  have hol := ownT_le hG (k := comp) haG i
  have hround := roundL_ hE (h := h') (hL := hL) (f := f') (k := h.length) (N := hK.length) (base := hL.length) (i := i) (c := G.T (itr (nx G) a0 i) 2) (p := G.T (itr (nx G) a0 i) 3) (ws := wordT G a0 i) (sm := ownT G comp a0 i)
   (i4 _ _ kk (by omega) (by omega)) g2 g3 g7 g8 g11 hl hS hsub' hdB hx hpc (i4 _ _ (KK _ _ h7) n1 n2) i5 i6 i7 i3 (by omega) (by omega) (by rw [← hGn]; exact t2) t3 (Nat.le_refl _) (by omega) l8 l11 (by omega) i1 (by omega) (by omega) (by omega) n1 n2 n3
  rw [← hGe] at hround
  refine hround.imp ?_
  rintro o st' ⟨rfl, h2, f2, ov2, hj, j1, j2, j3, j4, j5, j6, j7⟩
  rw [hj]
  refine ⟨rfl, j1, fun _ => by simp only; omega, by simp only; omega, fun b o hb h1 h2 => ?_, ov2, j3, j4, j5⟩
  exact j7 b o (List.getElem?_eq_some_iff.1 hb).1 (i4 b o hb h1 h2) h1 h2
 ·exact ⟨by omega, fun h => absurd h (Nat.lt_irrefl _), Nat.le_refl _, fun b o hb _ _ => hb, emptyS, KK _ _ h8, KK _ _ h11, .inl ⟨rfl, rfl, rfl⟩⟩
end Go.Proofs.Ytjlkndkedknocaa
namespace Go.Ai
def SmallL (ws : List Int) : Prop := ∀ y ∈ ws, -1000 ≤ y ∧ y ≤ 1000
theorem SmallL.nth {ws : List Int} (h : SmallL ws) (i : Nat) : -1000 ≤ nth ws i ∧ nth ws i ≤ 1000 := by
 by_cases hi : i < ws.length
 ·exact h _ (nth_mem hi)
 ·rw [nth_ge (by omega)]; omega
theorem SmallL.app {a b : List Int} (h : SmallL a) (k : SmallL b) : SmallL (a ++ b) := fun y hy => by
 rcases List.mem_append.1 hy with h1 | h1
 ·exact h y h1
 ·exact k y h1
theorem SmallL.rep {n : Nat} {m : Int} (h : -1000 ≤ m ∧ m ≤ 1000) : SmallL (List.replicate n m) := fun y hy => by
 rw [List.mem_replicate] at hy
 rw [hy.2]; exact h
theorem OwnT.ints {h : List O} {lo : Nat} {v : Value} {ws : List Int} {el : TypeId} (ho : OwnT h lo v ws.length (intsC ws) el 1) (hs : SmallL ws) (hl : ws.length < 2 ^ 62) : Ints h v ws := by
 have h64 : ∀ i, I64 (Ai.nth ws i) := fun i => by have := hs.nth i; constructor <;> omega
 rcases ho with ⟨rfl, h1, h2⟩ | ho
 ·have : ws = [] := List.length_eq_zero_iff.1 h1
  subst this
  exact ⟨_, 0, 0, 0, rfl, fun h => absurd h (by simp), fun i hi => absurd hi (by simp), h64, hl⟩
 ·rcases ho.2 with ⟨rfl, h1⟩ | ⟨b, s, rfl, h1, h2, _⟩
  ·have : ws = [] := List.length_eq_zero_iff.1 h1
   subst this
   exact Ints.nil
  ·exact ⟨_, b, 0, _, rfl, fun _ => rfl, fun i hi => by rw [rd_def, h2, Nat.zero_add]; exact intsC_get hi, h64, hl⟩
end Go.Ai
namespace Go.Proofs.Ytjlkndkedknocaa
open Go Go.Ai
attribute [local instance] Classical.propDecidable
theorem wordT_small {G : Dg} (hG : GoodG G) {a : Nat} (ha : a < 2 * G.n) : ∀ i, SmallL (wordT G a i) := by
 intro i
 induction i with
 | zero => intro y hy; simp [wordT] at hy
 | succ i ih =>
  refine ih.app fun y hy => ?_
  unfold wordP at hy
  split at hy
  ·simp at hy
   obtain ⟨t0, t1, t2, t3, _⟩ := hG.T _ ((nx_perm hG).itr_lt ha i)
   have hg := gen_le hG t2 (show 1 < 4 by omega)
   have hc := arC_le G
   have hz := hG.size
   have e : (finT G (itr (nx G) a i)).1 = G.T (itr (nx G) a i) 2 := rfl
   rw [e] at hy
   rcases hG.sign _ t2 with h | h <;> rw [h] at hy <;> omega
  ·simp at hy
noncomputable def lonS (G : Dg) (k : Int) : Int := ownT G k (fstA G k).toNat (perA G (fstA G k).toNat)
noncomputable def lonD (G : Dg) (k : Int) : List Int := if 0 ≤ fstA G k then wordT G (fstA G k).toNat (perA G (fstA G k).toNat) ++ List.replicate (lonS G k).toNat (-(merD G k)) ++ List.replicate (-(lonS G k)).toNat (merD G k) else []
def LonP (h0 : List O) (ws : List Int) (v : Value) (st' : St) : Prop := Sub h0 st'.h ∧ h0.length ≤ st'.fl ∧ Ints st'.h v ws
structure LwI (h0 h : List O) (lo p8 p11 : Nat) (sm : Int) (ov : Value) (ws : List Int) : Prop where
 sub : Sub h0 h
 b8 : AtB h p8 (.cells [ov] 34 (some 0))
 b11 : AtB h p11 (.cells [.int .i64 sm] 3 (some 0))
 own : OwnT h lo ov ws.length (intsC ws) 3 1
 small : SmallL ws
 lo_ : lo ≤ h.length
theorem LwI.add {h0 h : List O} {lo p8 p11 : Nat} {sm sm' m : Int} {ov : Value} {ws : List Int} (hI : LwI h0 h lo p8 p11 sm ov ws) (hm : -1000 ≤ m ∧ m ≤ 1000) (l0 : h0.length ≤ p8) (l1 : h0.length ≤ p11) (l8 : p8 < lo) (l11 : p11 < lo) (hne : p8 ≠ p11) (hw : ws.length ≤ 10000) :
  ∃ b' H4, appendV 3 1 8 ov (.slice (some ⟨h.length, 0, none⟩) 1 1) ⟨h ++ [.cells [.int .i64 m] 3 (some 0)], h0.length⟩ = some (.slice (some ⟨b', 0, none⟩) (ws.length + 1) (ws.length + 1), ⟨H4, h0.length⟩) ∧
   H4[p8]? = some (.cells [ov] 34 (some 0)) ∧ H4[p11]? = some (.cells [.int .i64 sm] 3 (some 0)) ∧
   LwI h0 ((H4.set p8 (.cells [.slice (some ⟨b', 0, none⟩) (ws.length + 1) (ws.length + 1)] 34 (some 0))).set p11 (.cells [.int .i64 sm'] 3 (some 0))) lo p8 p11 sm' (.slice (some ⟨b', 0, none⟩) (ws.length + 1) (ws.length + 1)) (ws ++ [m]) := by
 have hread : readSlice (h ++ [.cells [.int .i64 m] 3 (some 0)]) 1 1 (some ⟨h.length, 0, none⟩) = some [.int .i64 m] := by simp [readSlice, rdN_at0]
 have hlo := hI.lo_
 obtain ⟨b', H4, f4, happ, hb', hown, hf1, hf2, hL4, K4⟩ := append_T (fl := h0.length) (c := 1) (bytes := 8) (hI.own.keep (h' := h ++ [.cells [.int .i64 m] 3 (some 0)]) fun b s _ _ e => app_of e _) hread (by simp) (by simp) (by simp; omega) (by simp only [roomMax]; omega) (by omega)
 obtain rfl : f4 = h0.length := by omega
 have k8 := K4 _ _ (app_of hI.b8 _) (.inl l8)
 have k11 := K4 _ _ (app_of hI.b11 _) (.inl l11)
 refine ⟨b', H4, happ, k8, k11, fun b o hb => ?_, set_ne (set_self k8) hne, set_self (set_ne k11 (Ne.symm hne)), ?_, hI.small.app (fun y hy => by simp at hy; rw [hy]; exact hm), by simp at hL4 ⊢; omega⟩
 ·have := (List.getElem?_eq_some_iff.1 hb).1
  exact set_ne (set_ne (K4 _ _ (app_of (hI.sub b o hb) _) (.inl (by omega))) (by omega)) (by omega)
 ·have : OwnT H4 lo (.slice (some ⟨b', 0, none⟩) (ws.length + 1) (ws.length + 1)) (ws ++ [m]).length (intsC (ws ++ [m])) 3 1 := by simpa [intsC] using hown
  exact this.keep fun b s e1 e2 e3 => set_ne (set_ne e3 (by omega)) (by omega)
variable {E : Env} (hE : OE E)
include hE
theorem longitude_ (hWk : ∀ (h : List O) (pl n : Nat) (x : Nat → Nat → Int) (s : Nat → Int) (L i : Int), LnkP h pl n x s L → Snd n x s L → DR E 148 [.pointer (some ⟨pl, 0, none⟩), .int .i64 i] ⟨h, h.length⟩ (.ret (walkV h)) ⟨walkM h pl i (dgOf n x s L), h.length⟩)
  {h0 : List O} {a : Option Addr} {n c : Nat} {x : Nat → Nat → Int} {s : Nat → Int} {L : Int} (hx : CrossP h0 a n x s) (k : Int) :
  DC E 70 [dV a n c L, .int .i64 k] ⟨h0, h0.length⟩ fun o st' => (kindD n x s L ≠ 0 ∧ o = .ret (.tuple #[.slice none 0 0, .int .i64 (kindD n x s L)]) ∧ st' = ⟨h0, h0.length⟩) ∨
   (kindD n x s L = 0 ∧ ¬ (0 ≤ k ∧ k < cpK (dgOf n x s L) + L) ∧ o = .ret (.tuple #[.slice none 0 0, .int .i64 1]) ∧ st' = ⟨h0, h0.length⟩) ∨
   (kindD n x s L = 0 ∧ (0 ≤ k ∧ k < cpK (dgOf n x s L) + L) ∧ ∃ v, o = .ret (.tuple #[v, .int .i64 0]) ∧ LonP h0 (lonD (dgOf n x s L) k) v st') := by
 refine hE.fnC (body := rb70) rfl ?_
 unfold rb70
 have hx1 : CrossP (h0 ++ [O.cells [.slice a n c, .int .i64 L] 24 (some 0), O.cells [.int .i64 k] 3 (some 0)]) a n x s := hx.ext (Ext.snoc _ _)
 have h1 := check_ hE (c := c) (L := L) hx1
 simp [dV] at h1
 by_cases hk : kindD n x s L = 0
 ·have h2 := newLinkC_ hE (c := c) hx1 hk
  simp [dV] at h2
  have hS := (kind_zero hk).1
  simp [dV, rdN_at0, joined_fl, DC_of h1, hk, List.append_assoc]
  refine h2.imp ?_
  rintro o ⟨h3, f3⟩ ⟨pl, rfl, hp, hf, hs, hl⟩
  simp only at hf hs hl
  have hs0 : Sub h0 h3 := ((Sub.refl h0).app _).trans hs
  have hd0 : h3[h0.length]? = some (O.cells [.slice a n c, .int .i64 L] 24 (some 0)) := hs _ _ (by rw [app_at0]; rfl)
  have hd1 : h3[h0.length + 1]? = some (O.cells [.int .i64 k] 3 (some 0)) := hs _ _ (by rw [app_at]; rfl)
  have hlen := hs.len
  simp at hlen
  have hl' := hl
  obtain ⟨uv, xa', xc', ab, cb, mb, z1, z2, z3, z4, z5, hO, hk'⟩ := hl'
  unfold linkC at z1
  have hd0' : ∀ l, (h3 ++ l)[h0.length]? = _ := fun l => app_of hd0 l
  have hd1' : ∀ l, (h3 ++ l)[h0.length + 1]? = _ := fun l => app_of hd1 l
  have z1' : ∀ l, (h3 ++ l)[pl]? = _ := fun l => app_of z1 l
  have hmin : min h0.length h3.length = h0.length := by omega
  by_cases c1 : 0 ≤ k ∧ k < cpK (dgOf n x s L) + L
  ·have c1' : ¬ k < 0 := by omega
   have c2' : ¬ (cpK (dgOf n x s L) : Int) + L ≤ k := by omega
   have b2 : one1 emptyS = true := rfl
   have b3 : emptyS.cells = #[emptyS] := rfl
   have hmin2 : min h0.length (h3.length + 1) = h0.length := by omega
   have hmin3 : min h0.length (h3.length + 2) = h0.length := by omega
   obtain ⟨G, hGe⟩ : ∃ G, G = dgOf n x s L := ⟨_, rfl⟩
   have hG : GoodG G := by rw [hGe]; exact good_of hS
   have hGn : G.n = n := by rw [hGe]; rfl
   have hfi := first_ hE (hl.sub ((Sub.refl h3).app [O.cells [.pointer (some ⟨pl, 0, none⟩)] 155 (some 0), .cells [emptyS] 34 (some 0)])) hS.size hS.loops c1
   simp at hfi
   rw [← hGe] at hfi ⊢
   have hfl := fstA_lt (G := G) (k := k)
   rw [hGn] at hfl
   simp [joined_fl, hf, wrN_at0, set_at0, hmin, rd_def, rd_at0, hd0', hd1', app_at0, z1', c1, c1', c2', wrN_at, set_at, b2, b3, hmin2, app_at, DC_of hfi, List.append_assoc]
   by_cases h0' : 0 ≤ fstA G k
   ·have h0'' : ¬ fstA G k < 0 := by omega
    obtain ⟨a0, ha0⟩ : ∃ a0 : Nat, fstA G k = a0 := ⟨(fstA G k).toNat, by omega⟩
    have ha0' : (fstA G k).toNat = a0 := by omega
    have ha0n : a0 < 2 * n := by omega
    have ha0z : ¬ ((a0 : Int) < 0) := by omega
    obtain ⟨H, hH⟩ : ∃ H, H = h3 ++ [O.cells [.pointer (some ⟨pl, 0, none⟩)] 155 (some 0), .cells [emptyS] 34 (some 0), .cells [.int .i64 0] 3 (some 0)] := ⟨_, rfl⟩
    have hlH : H.length = h3.length + 3 := by rw [hH]; simp
    have hsH : Sub h3 H := by rw [hH]; exact (Sub.refl _).app _
    have hwk := hWk H pl n x s L a0 (hl.sub hsH) hS
    have q7 : H[h3.length]? = some (.cells [.pointer (some ⟨pl, 0, none⟩)] 155 (some 0)) := by rw [hH, app_at0]; rfl
    have q8 : H[h3.length + 1]? = some (.cells [emptyS] 34 (some 0)) := by rw [hH, app_at]; rfl
    have q11 : H[h3.length + 2]? = some (.cells [.int .i64 0] 3 (some 0)) := by rw [hH, app_at]; rfl
    have hwr : wrN H (h3.length + 2) 0 [Value.int .i64 0] = some H := by
     rw [wrN_def, q11]
     simp [set_same q11]
    have hrd7 : rd H h3.length 0 = some (.pointer (some ⟨pl, 0, none⟩)) := by rw [rd_def, q7]; rfl
    simp [h0', h0'', ha0z, hwr, hrd7, wrN_at, set_at, app_at, app_at0, hmin3, ha0, ← hH, DC_of hwk, q7]
    obtain ⟨M, hM⟩ : ∃ M, M = walkM H pl a0 (dgOf n x s L) := ⟨_, rfl⟩
    have hsM : Sub H M := by rw [hM]; unfold walkM; rw [List.append_assoc]; exact (Sub.refl _).app _
    have hlM : H.length + 4 < M.length := by rw [hM]; simp [walkM]; omega
    have m0 : M[H.length]? = some (.cells [.pointer (some ⟨pl, 0, none⟩)] 155 (some 0)) := by rw [hM]; unfold walkM; rw [List.append_assoc, app_at0]; rfl
    have m1 : M[H.length + 1]? = some (.cells [.int .i64 a0] 3 (some 0)) := by rw [hM]; unfold walkM; rw [List.append_assoc, app_at]; rfl
    have m2 : M[H.length + 2]? = some (.cells (cellsL (finL (dgOf n x s L))) 72 (some 0)) := by rw [hM]; unfold walkM; rw [List.append_assoc, app_at]; rfl
    have m3 : M[H.length + 3]? = some (.cells [.slice (some ⟨H.length + 2, 0, none⟩) (2 * n) (2 * n)] 215 (some 0)) := by rw [hM]; unfold walkM; rw [List.append_assoc, app_at]; rfl
    rw [← hM]
    refine rangeL_ hE (hL := h3) (pl := pl) (n := n) (dB := h0.length) (pc := h0.length + 1) (p7 := h3.length) (p8 := h3.length + 1) (p11 := h3.length + 2) (pf := H.length + 1) (pe := H.length + 3) (pL := H.length) (eb := H.length + 2) (a0 := a0) (comp := k) (ov := emptyS)
     (by simp [walkV]) (by simp) (by simp) (by simp) (by simp) (by simp) hl hS (hsH.trans hsM) hd0 (hx1.sub hs) hd1 (hsM _ _ q7) (hsM _ _ q8) (hsM _ _ q11) ha0n m1 m3 m2 m0 (by omega) (by omega) (by omega) (by omega) (by omega) (by omega) (by omega) ?_
    intro h' ov' hkeep r8 r11 hown
    rw [← hGe] at hown r11
    have hS0 : lonS G k = ownT G k a0 (perA G a0) := by unfold lonS; rw [ha0']
    have haG : a0 < 2 * G.n := by rw [hGn]; exact ha0n
    have hmer : merD G k = arN G a0 + 1 := by unfold merD; rw [if_pos h0', ha0']
    have hsz := hS.size
    have hml := arN_lt haG
    have hac := arC_le G
    rw [hGn] at hac
    have hper := (perA_spec hG haG).1.2.2
    rw [hGn] at hper
    have hSb := ownT_le hG (k := k) haG (perA G a0)
    rw [← hS0] at hSb r11
    have hmb : -1000 ≤ merD G k ∧ merD G k ≤ 1000 := by rw [hmer]; omega
    obtain ⟨m, hme⟩ : ∃ m, m = merD G k := ⟨_, rfl⟩
    obtain ⟨S, hSe⟩ : ∃ S, S = lonS G k := ⟨_, rfl⟩
    rw [← hSe] at hSb r11
    rw [← hme] at hmb ⊢
    have hsub0 : Sub h0 h' := fun b o hb => by
     have := (List.getElem?_eq_some_iff.1 hb).1
     exact hkeep b o (hsM _ _ (hsH _ _ (hs0 b o hb))) (by omega) (by omega)
    have hwl := wordT_len G a0 (perA G a0)
    obtain ⟨W, hW⟩ : ∃ W, W = wordT G a0 (perA G a0) := ⟨_, rfl⟩
    have hWs : SmallL W := by rw [hW]; exact wordT_small hG haG _
    rw [← hW] at hown hwl
    have hlon : lonD G k = W ++ List.replicate S.toNat (-m) ++ List.replicate (-S).toNat m := by
     unfold lonD; rw [if_pos h0', ha0', ← hW, ← hSe, ← hme]
    have hMl : M.length ≤ h'.length := by
     have hk2 : Sub (M.take (h3.length + 1)) h' := fun b o hb => by
      have hbl := (List.getElem?_eq_some_iff.1 hb).1
      rw [List.getElem?_take] at hb
      split at hb
      ·exact hkeep b o hb (by omega) (by omega)
      ·cases hb
     apply Classical.byContradiction
     intro hcon
     have hlast : M[M.length - 1]? = some M[M.length - 1] := List.getElem?_eq_getElem (by omega)
     have := (List.getElem?_eq_some_iff.1 (hkeep _ _ hlast (by omega) (by omega))).1
     omega
    have hI0 : LwI h0 h' M.length (h3.length + 1) (h3.length + 2) S ov' W := ⟨hsub0, r8, r11, hown, hWs, hMl⟩
    have l8 : h3.length + 1 < M.length := by omega
    have l11 : h3.length + 2 < M.length := by omega
    have hmn1 : min h0.length (h3.length + 1) = h0.length := by omega
    have hmn2 : min h0.length (h3.length + 2) = h0.length := by omega
    simp
    refine DW_loop (fun kk fr st => ∃ (sm : Int) (h : List O) (ov : Value) (ws : List Int), kk = sm.toNat ∧ st = ⟨h, h0.length⟩ ∧ LwI h0 h M.length (h3.length + 1) (h3.length + 2) sm ov ws ∧ sm ≤ 400 ∧ (S < 0 → sm = S) ∧ (0 ≤ S → 0 ≤ sm) ∧ ws.length + sm.toNat ≤ 1000 ∧ ws ++ List.replicate sm.toNat (-m) = W ++ List.replicate S.toNat (-m) ∧
     get fr 8 = .pointer (some ⟨h3.length + 1, 0, none⟩) ∧ get fr 10 = .int .i64 m ∧ get fr 11 = .pointer (some ⟨h3.length + 2, 0, none⟩)) ?_ (k := S.toNat) ?_
    ·rintro kk fr st ⟨sm, h, ov, ws, rfl, rfl, hI, hs4, hs1, hs2, hwsl, heq, g8, g10, g11⟩
     have r8 := hI.b8
     have r11 := hI.b11
     unfold AtB at r8 r11
     by_cases hpos : 0 < sm
     ·have hwn : IntKind.i64.wrap (-m) = -m := by rw [w64_id] <;> omega
      have hws : IntKind.i64.wrap (sm - 1) = sm - 1 := by rw [w64_id] <;> omega
      obtain ⟨b', H4, happ, k8, k11, hI4⟩ := hI.add (m := -m) (sm' := sm - 1) (by omega) (by omega) (by omega) l8 l11 (by omega) (by omega)
      have k11' : ∀ o, (H4.set (h3.length + 1) o)[h3.length + 2]? = some (.cells [.int .i64 sm] 3 (some 0)) := fun o => set_ne k11 (by omega)
      simp [g8, g10, g11, rd_def, r8, r11, hpos, hwn, happ, wrN_def, k8, k11', hws, hmn1, hmn2, -List.length_append]
      refine ⟨(sm - 1).toNat, by omega, sm - 1, rfl, _, ws ++ [-m], hI4, by omega, by omega, by omega, by simp; omega, ?_⟩
      rw [← heq, List.append_assoc]
      congr 1
      rw [show sm.toNat = (sm - 1).toNat + 1 by omega]
      rfl
     ·simp [g8, g10, g11, rd_def, r8, r11, hpos]
      have hsz0 : sm.toNat = 0 := by omega
      rw [hsz0] at heq
      simp at heq
      refine DW_loop (fun kk fr st => ∃ (sm : Int) (h : List O) (ov : Value) (ws : List Int), kk = (-sm).toNat ∧ st = ⟨h, h0.length⟩ ∧ LwI h0 h M.length (h3.length + 1) (h3.length + 2) sm ov ws ∧ -400 ≤ sm ∧ sm ≤ 0 ∧ ws.length + (-sm).toNat ≤ 2000 ∧ ws ++ List.replicate (-sm).toNat m = W ++ List.replicate S.toNat (-m) ++ List.replicate (-S).toNat m ∧
       get fr 8 = .pointer (some ⟨h3.length + 1, 0, none⟩) ∧ get fr 10 = .int .i64 m ∧ get fr 11 = .pointer (some ⟨h3.length + 2, 0, none⟩)) ?_ (k := (-sm).toNat) ?_
      ·clear hI hs4 hs1 hs2 hwsl heq g8 g10 g11 r8 r11 hpos hsz0
       clear sm h ov ws
       rintro kk fr st ⟨sm, h, ov, ws, rfl, rfl, hI, hs4, hs1, hwsl, heq, g8, g10, g11⟩
       have r8 := hI.b8
       have r11 := hI.b11
       unfold AtB at r8 r11
       by_cases hneg : sm < 0
       ·have hws : IntKind.i64.wrap (sm + 1) = sm + 1 := by rw [w64_id] <;> omega
        obtain ⟨b', H4, happ, k8, k11, hI4⟩ := hI.add (m := m) (sm' := sm + 1) (by omega) (by omega) (by omega) l8 l11 (by omega) (by omega)
        have k11' : ∀ o, (H4.set (h3.length + 1) o)[h3.length + 2]? = some (.cells [.int .i64 sm] 3 (some 0)) := fun o => set_ne k11 (by omega)
        simp [g8, g10, g11, rd_def, r8, r11, hneg, happ, wrN_def, k8, k11', hws, hmn1, hmn2, -List.length_append]
        refine ⟨(-(sm + 1)).toNat, by omega, sm + 1, rfl, _, ws ++ [m], hI4, by omega, by omega, by simp; omega, ?_⟩
        rw [← List.append_assoc, ← heq, List.append_assoc]
        congr 1
        rw [show (-sm).toNat = (-(sm + 1)).toNat + 1 by omega]
        rfl
       ·have hsz0 : (-sm).toNat = 0 := by omega
        rw [hsz0] at heq
        simp at heq
        simp [g8, g10, g11, rd_def, r8, r11, hneg, endK_ret]
        unfold pairQ back
        rw [hlon, List.append_assoc, ← heq]
        have hints := hI.own.ints hI.small (by omega)
        split
        ·rename_i hc
         have hflv : flat ov = true := by
          obtain ⟨va, hva, _⟩ := hI.own.look
          rw [hva] at hc ⊢
          simp [Out.scalar, scalar, flat1] at hc
          first | exact hc.1 | exact hc
         exact .inr ⟨by rw [hGe]; exact c1.2, ov, rfl, Sub.refl _, Nat.le_refl _, hints.flat hflv⟩
        ·exact .inr ⟨by rw [hGe]; exact c1.2, ov, rfl, hI.sub, Nat.le_refl _, hints⟩
      ·refine ⟨sm, h, ov, ws, rfl, rfl, hI, by omega, by omega, by omega, ?_, by simp [g8, g10, g11]⟩
       rw [heq]
       congr 2
       omega
    ·exact ⟨S, h', ov', W, rfl, rfl, hI0, by omega, fun _ => rfl, fun h => h, by omega, rfl, by simp [hme]⟩
   ·have hf1 : fstA G k < 0 := by omega
    have hln : lonD G k = [] := if_neg h0'
    simp [h0', hf1, hk, rd_at, endK_ret, rdO, app_at]
    have hfe : (Out.ret (.tuple #[emptyS, .int .i64 0])).scalar = true := rfl
    unfold pairQ
    rw [back_scalar hfe (Nat.le_refl _), hln]
    exact .inr ⟨by rw [hGe]; exact c1.2, emptyS, rfl, Sub.refl _, Nat.le_refl _, _, 0, 0, 0, rfl, fun h => absurd h (by simp), fun i hi => absurd hi (by simp), fun i => by simp [nth, I64], by simp⟩
  ·by_cases d1 : 0 ≤ k
   ·have d1' : ¬ k < 0 := by omega
    have d2' : (cpK (dgOf n x s L) : Int) + L ≤ k := by omega
    have c1' : ¬ (k < cpK (dgOf n x s L) + L) := by omega
    simp [joined_fl, hf, wrN_at0, set_at0, hmin, rd_def, rd_at0, hd0', hd1', app_at0, z1', d1, d1', d2', c1', endK_ret, back_scalar, Out.scalar, scalar, flat1, flat]
   ·have d1' : k < 0 := by omega
    simp [joined_fl, hf, wrN_at0, set_at0, hmin, rd_def, rd_at0, hd0', hd1', app_at0, z1', d1, d1', endK_ret, back_scalar, Out.scalar, scalar, flat1, flat]
 ·simp [dV, rdN_at0, joined_fl, DC_of h1, hk, endK_ret, back_scalar, Out.scalar, scalar, flat1, flat]
end Go.Proofs.Ytjlkndkedknocaa
namespace Go.Ai
attribute [local instance] Classical.propDecidable
def sumZ (f : Nat → Int) : Nat → Int
 | 0 => 0
 | n + 1 => sumZ f n + f n
theorem sumZ_congr {f g : Nat → Int} : ∀ {n : Nat}, (∀ i, i < n → f i = g i) → sumZ f n = sumZ g n := by
 intro n
 induction n with
 | zero => intro _; rfl
 | succ n ih => intro h; simp only [sumZ]; rw [ih fun i hi => h i (by omega), h n (by omega)]
theorem sumZ_add (f g : Nat → Int) : ∀ n, sumZ (fun i => f i + g i) n = sumZ f n + sumZ g n := by
 intro n
 induction n with
 | zero => rfl
 | succ n ih => simp only [sumZ]; rw [ih]; omega
theorem sumZ_zero {f : Nat → Int} : ∀ {n : Nat}, (∀ i, i < n → f i = 0) → sumZ f n = 0 := by
 intro n
 induction n with
 | zero => intro _; rfl
 | succ n ih => intro h; simp only [sumZ]; rw [ih fun i hi => h i (by omega), h n (by omega)]; rfl
theorem sumZ_one {v : Nat} {z : Int} : ∀ {n : Nat}, v < n → sumZ (fun i => if i = v then z else 0) n = z := by
 intro n
 induction n with
 | zero => intro h; omega
 | succ n ih =>
  intro h
  simp only [sumZ]
  by_cases e : v = n
  ·subst e
   rw [if_pos rfl, sumZ_zero fun i hi => if_neg (by omega)]; omega
  ·rw [ih (by omega), if_neg (by omega)]; omega
theorem sumZ_met {N : Nat} {f : Nat → Nat} {φ : Nat → Int} : ∀ {P : Nat}, (∀ t, t < P → f t < N) → (∀ s t, s < P → t < P → f s = f t → s = t) → sumZ (fun t => φ (f t)) P = sumZ (fun a => if ∃ t, t < P ∧ f t = a then φ a else 0) N := by
 intro P
 induction P with
 | zero =>
  intro _ _
  rw [sumZ_zero (n := N) fun i _ => if_neg (by rintro ⟨t, h, _⟩; omega)]
  rfl
 | succ P ih =>
  intro h1 h2
  simp only [sumZ]
  rw [ih (fun t ht => h1 t (by omega)) fun s t hs ht => h2 s t (by omega) (by omega)]
  rw [← sumZ_one (v := f P) (z := φ (f P)) (h1 P (by omega)), ← sumZ_add]
  refine sumZ_congr fun a _ => ?_
  by_cases e : a = f P
  ·subst e
   rw [if_neg, if_pos rfl, if_pos ⟨P, by omega, rfl⟩]
   ·omega
   ·rintro ⟨t, ht, he⟩
    have := h2 t P (by omega) (by omega) he
    omega
  ·rw [if_neg e]
   by_cases hx : ∃ t, t < P ∧ f t = a
   ·obtain ⟨t, ht, he⟩ := hx
    rw [if_pos ⟨t, ht, he⟩, if_pos ⟨t, by omega, he⟩]; omega
   ·rw [if_neg hx, if_neg]
    ·rfl
    ·rintro ⟨t, ht, he⟩
     by_cases hp : t = P
     ·exact e (by rw [← he, hp])
     ·exact hx ⟨t, by omega, he⟩
structure Zg where
 v : Int
instance : Gp Zg where
 mul a b := ⟨a.v + b.v⟩
 e := ⟨0⟩
 inv a := ⟨-a.v⟩
 assoc a b c := by show Zg.mk _ = Zg.mk _; congr 1; show a.v + b.v + c.v = a.v + (b.v + c.v); omega
 e_mul a := by show Zg.mk _ = a; cases a; congr 1; simp
 mul_e a := by show Zg.mk _ = a; cases a; congr 1; simp
 inv_mul a := by show Zg.mk (-a.v + a.v) = Zg.mk 0; congr 1; omega
 mul_inv a := by show Zg.mk (a.v + -a.v) = Zg.mk 0; congr 1; omega
theorem Zg.mul_v (a b : Zg) : (a * b).v = a.v + b.v := rfl
theorem Zg.inv_v (a : Zg) : (Gp.inv a).v = -a.v := rfl
theorem Zg.e_v : (Gp.e : Zg).v = 0 := rfl
theorem Zg.ext {a b : Zg} (h : a.v = b.v) : a = b := by cases a; cases b; congr 1
end Go.Ai
namespace Go.Proofs.Ytjlkndkedknocaa
open Go Go.Ai
attribute [local instance] Classical.propDecidable
noncomputable def ovr (G : Dg) (xs : List Int) (i : Int) (c : Nat) : Int := if nth xs (G.X c 1) = i then G.s c else 0
noncomputable def und (G : Dg) (xs : List Int) (i : Int) (c : Nat) : Int := if nth xs (G.X c 0) = i then G.s c else 0
noncomputable def phU (G : Dg) (xs : List Int) (i : Int) (a : Nat) : Int := if G.T a 3 = 0 then ovr G xs i (G.T a 2) else 0
noncomputable def phO (G : Dg) (xs : List Int) (i : Int) (a : Nat) : Int := if G.T a 3 = 0 then 0 else und G xs i (G.T a 2)
noncomputable def lnkZ (G : Dg) (xs : List Int) (k i : Int) : Int := sumZ (fun c => if (nth xs (G.X c 0) = k ∧ nth xs (G.X c 1) = i) ∨ (nth xs (G.X c 0) = i ∧ nth xs (G.X c 1) = k) then G.s c else 0) G.n
section
variable {G : Dg} (hG : GoodG G) {xs : List Int} {K : Nat} (hO : OrbI (2 * G.n) (nx G) (2 * G.n) K xs)
include hG
theorem comes_in {c : Nat} (hc : c < G.n) : (G.T (G.X c 0) 2 = c ∧ G.T (G.X c 0) 3 = 0) ∧ ((G.s c = 1 ∧ G.T (G.X c 3) 2 = c ∧ G.T (G.X c 3) 3 = 3) ∨ (G.s c = -1 ∧ G.T (G.X c 1) 2 = c ∧ G.T (G.X c 1) 3 = 1)) := by
 have key : ∀ q, q < 4 → outB (G.s c) q = false → G.T (G.X c q) 2 = c ∧ G.T (G.X c q) 3 = q := fun q hq ho => by
  rcases (sides hG (hG.inV (x := (c, q)) hc hq)).2 with ⟨h, _⟩ | ⟨_, e, _⟩
  ·simp only at h
   rw [h] at ho; cases ho
  ·exact ⟨(congrArg Prod.fst e).symm, (congrArg Prod.snd e).symm⟩
 refine ⟨key 0 (by omega) (by rcases hG.sign c hc with e | e <;> rw [e] <;> decide), ?_⟩
 rcases hG.sign c hc with e | e
 ·exact .inl ⟨e, key 3 (by omega) (by rw [e]; decide)⟩
 ·exact .inr ⟨e, key 1 (by omega) (by rw [e]; decide)⟩
theorem ends_at {a : Nat} (ha : a < 2 * G.n) : (G.T a 3 = 0 ∧ a = G.X (G.T a 2) 0) ∨ (G.s (G.T a 2) = 1 ∧ G.T a 3 = 3 ∧ a = G.X (G.T a 2) 3) ∨ (G.s (G.T a 2) = -1 ∧ G.T a 3 = 1 ∧ a = G.X (G.T a 2) 1) := by
 obtain ⟨t0, t1, t2, t3, x1, x2, _⟩ := hG.T a ha
 have hd := (hG.dir a ha).2
 obtain ⟨q, hq⟩ : ∃ q, q = G.T a 3 := ⟨_, rfl⟩
 obtain ⟨c, hc⟩ : ∃ c, c = G.T a 2 := ⟨_, rfl⟩
 rw [← hq, ← hc] at hd x2
 rw [← hc] at t2
 rw [← hq] at t3
 rw [← hq, ← hc]
 have hqq : q = 0 ∨ q = 1 ∨ q = 2 ∨ q = 3 := by omega
 rcases hG.sign c t2 with e | e <;> rw [e] at hd <;> rcases hqq with rfl | rfl | rfl | rfl
 ·exact .inl ⟨rfl, x2.symm⟩
 ·exact absurd hd (by decide)
 ·exact absurd hd (by decide)
 ·exact .inr (.inl ⟨e, rfl, x2.symm⟩)
 ·exact .inl ⟨rfl, x2.symm⟩
 ·exact .inr (.inr ⟨e, rfl, x2.symm⟩)
 ·exact absurd hd (by decide)
 ·exact absurd hd (by decide)
theorem sum_under (h : Nat → Int) : sumZ h G.n = sumZ (fun a => if G.T a 3 = 0 then h (G.T a 2) else 0) (2 * G.n) := by
 have h1 := sumZ_met (N := 2 * G.n) (P := G.n) (f := fun c => G.X c 0) (φ := fun a => h (G.T a 2)) (fun c hc => hG.X c 0 hc (by omega)) fun c d hc hd e => by
  have a := (comes_in hG hc).1.1
  have b := (comes_in hG hd).1.1
  have e : G.X c 0 = G.X d 0 := e
  rw [e] at a
  omega
 rw [sumZ_congr (g := fun c => (fun a => h (G.T a 2)) (G.X c 0)) fun c hc => by simp only [(comes_in hG hc).1.1], h1]
 refine sumZ_congr fun a ha => ?_
 rcases ends_at hG ha with ⟨e1, e2⟩ | ⟨_, e1, _⟩ | ⟨_, e1, _⟩
 ·rw [if_pos e1, if_pos ⟨_, (hG.T a ha).2.2.1, e2.symm⟩]
 ·rw [if_neg (show ¬ G.T a 3 = 0 by omega), if_neg]
  rintro ⟨c, hc, rfl⟩
  have := (comes_in hG hc).1.2
  omega
 ·rw [if_neg (show ¬ G.T a 3 = 0 by omega), if_neg]
  rintro ⟨c, hc, rfl⟩
  have := (comes_in hG hc).1.2
  omega
theorem sum_over (h : Nat → Int) : sumZ h G.n = sumZ (fun a => if G.T a 3 = 0 then 0 else h (G.T a 2)) (2 * G.n) := by
 have hin : ∀ c, c < G.n → G.T (G.X c (if G.s c = 1 then 3 else 1)) 2 = c ∧ G.T (G.X c (if G.s c = 1 then 3 else 1)) 3 ≠ 0 := fun c hc => by
  rcases (comes_in hG hc).2 with ⟨e, h1, h2⟩ | ⟨e, h1, h2⟩
  ·rw [if_pos e]; exact ⟨h1, by omega⟩
  ·rw [if_neg (by omega)]; exact ⟨h1, by omega⟩
 have h1 := sumZ_met (N := 2 * G.n) (P := G.n) (f := fun c => G.X c (if G.s c = 1 then 3 else 1)) (φ := fun a => h (G.T a 2)) (fun c hc => hG.X c _ hc (by split <;> omega)) fun c d hc hd e => by
  have a := (hin c hc).1
  have b := (hin d hd).1
  have e : G.X c (if G.s c = 1 then 3 else 1) = G.X d (if G.s d = 1 then 3 else 1) := e
  rw [e] at a
  omega
 rw [sumZ_congr (g := fun c => (fun a => h (G.T a 2)) (G.X c (if G.s c = 1 then 3 else 1))) fun c hc => by simp only [(hin c hc).1], h1]
 refine sumZ_congr fun a ha => ?_
 have ht := (hG.T a ha).2.2.1
 rcases ends_at hG ha with ⟨e1, e2⟩ | ⟨e0, e1, e2⟩ | ⟨e0, e1, e2⟩
 ·rw [if_pos e1, if_neg]
  rintro ⟨c, hc, rfl⟩
  exact (hin c hc).2 e1
 ·rw [if_neg (show ¬ G.T a 3 = 0 by omega), if_pos]
  exact ⟨_, ht, by rw [if_pos e0]; exact e2.symm⟩
 ·rw [if_neg (show ¬ G.T a 3 = 0 by omega), if_pos]
  exact ⟨_, ht, by rw [if_neg (by omega)]; exact e2.symm⟩
include hO
theorem sum_walk (φ : Nat → Int) {f : Nat} (hf : f < 2 * G.n) : sumZ (fun t => φ (itr (nx G) f t)) (perA G f) = sumZ (fun a => if nth xs a = nth xs f then φ a else 0) (2 * G.n) := by
 have hN := nx_perm hG
 obtain ⟨⟨p1, p2, p3⟩, p4⟩ := perA_spec hG hf
 rw [sumZ_met (N := 2 * G.n) (φ := φ) (fun t _ => hN.itr_lt hf t) fun s t hs ht e => ?_]
 ·refine sumZ_congr fun a ha => ?_
  by_cases h : nth xs a = nth xs f
  ·obtain ⟨t, ht, he⟩ := PermN.short p1 p2 ((hO.rel f a hf ha (hO.done f hf)).1 h.symm)
   rw [if_pos h, if_pos ⟨t, ht, he⟩]
  ·rw [if_neg h, if_neg]
   rintro ⟨t, _, he⟩
   exact h ((hO.rel f a hf ha (hO.done f hf)).2 ⟨t, he⟩).symm
 ·rcases Nat.lt_trichotomy s t with h | h | h
  ·exact absurd e (hN.dist hf p4 h ht)
  ·exact h
  ·exact absurd e.symm (hN.dist hf p4 h hs)
theorem link_sym (hP : PlanG G) {f : Nat} (hf : f < 2 * G.n) (i : Int) : sumZ (fun t => phU G xs i (itr (nx G) f t)) (perA G f) = sumZ (fun t => phO G xs i (itr (nx G) f t)) (perA G f) := by
 obtain ⟨x, hx⟩ : ∃ x : Nat → Zg, ∀ a, x a = ⟨if nth xs a = i then 1 else 0⟩ := ⟨_, fun _ => rfl⟩
 have hst : ∀ c q, c < G.n → q < 4 → x (G.X c ((q + 2) % 4)) = x (G.X c q) := fun c q hc hq => by rw [hx, hx, strandC hG hO hc hq]
 obtain ⟨g, hg⟩ := planar hG hP (x := x) (c0 := G.n) fun c hc _ => by
  have h0 := hst c 0 hc (by omega)
  have h1 := hst c 1 hc (by omega)
  simp only [Nat.reduceAdd, Nat.reduceMod] at h0 h1
  unfold RelP labP
  rw [h0, h1]
  refine Zg.ext ?_
  rcases hG.sign c hc with e | e <;> rw [e]
  ·rw [if_neg (by decide), if_pos (by decide), if_pos (by decide), if_neg (by decide)]
   simp only [Zg.mul_v, Zg.inv_v, Zg.e_v]; omega
  ·rw [if_neg (by decide), if_neg (by decide), if_pos (by decide), if_pos (by decide)]
   simp only [Zg.mul_v, Zg.inv_v, Zg.e_v]; omega
 have hsat : ∀ c q, c < G.n → q < 4 → g (c, q) = g (c, (q + 3) % 4) * labP G x c q := fun c q hc hq => (sat_place hG hg.reg hc hq).1 (hg.arc _ (hG.X c q hc hq))
 have step : ∀ a, a < 2 * G.n → (g (bP G (nx G a))).v - (g (bP G a)).v = phU G xs i a - phO G xs i a := fun a ha => by
  obtain ⟨t0, t1, t2, t3, x1, x2, _⟩ := hG.T a ha
  obtain ⟨n1, n2, n3⟩ := nx_begin hG ha
  have hreg : g (bP G a) = g (rot3 (eP G a)) := by
   refine hg.reg _ _ (bP_in hG ha).1 (hG.inV (eP_in hG ha).1.1 (Nat.mod_lt _ (by omega))) ⟨1, ?_⟩
   simp only [orb]
   rw [nxt_rot, oth_b hG ha]
  have hnb : bP G (nx G a) = (G.T a 2, (G.T a 3 + 2) % 4) := Prod.ext n2 n3
  rw [hreg, hnb]
  unfold phU phO rot3 eP
  simp only
  rcases ends_at hG ha with ⟨e1, e2⟩ | ⟨e0, e1, e2⟩ | ⟨e0, e1, e2⟩
  ·rw [e1, if_pos rfl, if_pos rfl]
   simp only [Nat.reduceAdd, Nat.reduceMod]
   have hs := hsat _ 3 t2 (by omega)
   simp only [Nat.reduceAdd, Nat.reduceMod] at hs
   have hv := congrArg Zg.v hs
   rw [Zg.mul_v] at hv
   have h31 := hst _ 1 t2 (by omega)
   simp only [Nat.reduceAdd, Nat.reduceMod] at h31
   unfold ovr
   unfold labP at hv
   rw [h31] at hv
   rcases hG.sign _ t2 with e | e <;> rw [e] at hv ⊢
   ·rw [if_neg (by decide), Zg.inv_v, hx] at hv
    simp only at hv
    split at hv <;> rename_i hc <;> simp only [hc, if_true, if_false] <;> omega
   ·rw [if_pos (by decide), hx] at hv
    simp only at hv
    split at hv <;> rename_i hc <;> simp only [hc, if_true, if_false] <;> omega
  ·rw [e1, if_neg (by decide), if_neg (by decide)]
   simp only [Nat.reduceAdd, Nat.reduceMod]
   have hs := hsat _ 2 t2 (by omega)
   simp only [Nat.reduceAdd, Nat.reduceMod] at hs
   have hv := congrArg Zg.v hs
   rw [Zg.mul_v] at hv
   have h20 := hst _ 0 t2 (by omega)
   simp only [Nat.reduceAdd, Nat.reduceMod] at h20
   unfold und
   unfold labP at hv
   rw [h20, e0, if_pos (by decide), hx] at hv
   rw [e0]
   simp only at hv
   split at hv <;> rename_i hc <;> simp only [hc, if_true, if_false] <;> omega
  ·rw [e1, if_neg (by decide), if_neg (by decide)]
   simp only [Nat.reduceAdd, Nat.reduceMod]
   have hs := hsat _ 0 t2 (by omega)
   simp only [Nat.reduceAdd, Nat.reduceMod] at hs
   have hv := congrArg Zg.v hs
   rw [Zg.mul_v] at hv
   unfold und
   unfold labP at hv
   rw [e0, if_neg (by decide), Zg.inv_v, hx] at hv
   rw [e0]
   simp only at hv
   split at hv <;> rename_i hc <;> simp only [hc, if_true, if_false] <;> omega
 have hN := nx_perm hG
 have tele : ∀ t, sumZ (fun t => phU G xs i (itr (nx G) f t)) t - sumZ (fun t => phO G xs i (itr (nx G) f t)) t = (g (bP G (itr (nx G) f t))).v - (g (bP G f)).v := by
  intro t
  induction t with
  | zero => simp [sumZ, itr]
  | succ t ih =>
   have hs := step _ (hN.itr_lt hf t)
   simp only [sumZ]
   rw [show itr (nx G) f (t + 1) = nx G (itr (nx G) f t) from rfl]
   omega
 have := tele (perA G f)
 rw [(perA_spec hG hf).1.2.1] at this
 omega
theorem link_walk (hP : PlanG G) {f : Nat} (hf : f < 2 * G.n) {i : Int} (hi : i ≠ nth xs f) : lnkZ G xs (nth xs f) i = 2 * sumZ (fun t => phU G xs i (itr (nx G) f t)) (perA G f) := by
 have h1 := link_sym hG hO hP hf i
 have e1 := sum_walk hG hO (phU G xs i) hf
 have e2 := sum_walk hG hO (phO G xs i) hf
 have u1 := sum_under hG (fun c => if nth xs (G.X c 0) = nth xs f then ovr G xs i c else 0)
 have u2 := sum_over hG (fun c => if nth xs (G.X c 1) = nth xs f then und G xs i c else 0)
 have c1 : sumZ (fun a => if G.T a 3 = 0 then (if nth xs (G.X (G.T a 2) 0) = nth xs f then ovr G xs i (G.T a 2) else 0) else 0) (2 * G.n) = sumZ (fun a => if nth xs a = nth xs f then phU G xs i a else 0) (2 * G.n) := sumZ_congr fun a ha => by
  unfold phU
  rcases ends_at hG ha with ⟨k1, k2⟩ | ⟨_, k1, _⟩ | ⟨_, k1, _⟩
  ·rw [if_pos k1, if_pos k1, ← k2]
  ·rw [if_neg (show ¬ G.T a 3 = 0 by omega), if_neg (show ¬ G.T a 3 = 0 by omega)]; split <;> rfl
  ·rw [if_neg (show ¬ G.T a 3 = 0 by omega), if_neg (show ¬ G.T a 3 = 0 by omega)]; split <;> rfl
 have c2 : sumZ (fun a => if G.T a 3 = 0 then 0 else (if nth xs (G.X (G.T a 2) 1) = nth xs f then und G xs i (G.T a 2) else 0)) (2 * G.n) = sumZ (fun a => if nth xs a = nth xs f then phO G xs i a else 0) (2 * G.n) := sumZ_congr fun a ha => by
  unfold phO
  have t2 := (hG.T a ha).2.2.1
  have h31 := strandC hG hO t2 (show 1 < 4 by omega)
  simp only [Nat.reduceAdd, Nat.reduceMod] at h31
  rcases ends_at hG ha with ⟨k1, k2⟩ | ⟨_, k1, k2⟩ | ⟨_, k1, k2⟩
  ·rw [if_pos k1, if_pos k1]; split <;> rfl
  ·rw [if_neg (show ¬ G.T a 3 = 0 by omega), if_neg (show ¬ G.T a 3 = 0 by omega), ← h31, ← k2]
  ·rw [if_neg (show ¬ G.T a 3 = 0 by omega), if_neg (show ¬ G.T a 3 = 0 by omega), ← k2]
 have hs : lnkZ G xs (nth xs f) i = sumZ (fun c => if nth xs (G.X c 0) = nth xs f then ovr G xs i c else 0) G.n + sumZ (fun c => if nth xs (G.X c 1) = nth xs f then und G xs i c else 0) G.n := by
  unfold lnkZ
  rw [← sumZ_add]
  refine sumZ_congr fun c _ => ?_
  unfold ovr und
  by_cases a1 : nth xs (G.X c 0) = nth xs f
  ·by_cases a2 : nth xs (G.X c 1) = i
   ·have a3 : ¬ nth xs (G.X c 1) = nth xs f := fun e => hi (by rw [← a2, e])
    rw [if_pos (.inl ⟨a1, a2⟩), if_pos a1, if_pos a2, if_neg a3]; omega
   ·have a4 : ¬ nth xs (G.X c 0) = i := fun e => hi (by rw [← e, a1])
    rw [if_neg (fun h => h.elim (fun h => a2 h.2) (fun h => a4 h.1)), if_pos a1, if_neg a2, if_neg a4]; split <;> rfl
  ·by_cases a2 : nth xs (G.X c 1) = nth xs f
   ·by_cases a3 : nth xs (G.X c 0) = i
    ·rw [if_pos (.inr ⟨a3, a2⟩), if_neg a1, if_pos a2, if_pos a3]; omega
    ·rw [if_neg (fun h => h.elim (fun h => a1 h.1) (fun h => a3 h.1)), if_neg a1, if_pos a2, if_neg a3]; rfl
   ·rw [if_neg (fun h => h.elim (fun h => a1 h.1) (fun h => a2 h.2)), if_neg a1, if_neg a2]; rfl
 rw [hs, u1, u2, c1, c2, ← e1, ← e2, ← h1]
 omega
end
end Go.Proofs.Ytjlkndkedknocaa
namespace Go.Proofs.Ytjlkndkedknocaa
open Go Go.Ai
attribute [local instance] Classical.propDecidable
variable {E : Env} (hE : OE E)
include hE
theorem actR_ {h : List O} {va vw : Value} {A : List (List Int)} {w : List Int} {n p : Nat} (hA : Mat h va A) (hw : Ints h vw w) (hP : ∀ k, k < A.length → PermL n (nthR A k)) (hL : LetOk A.length w) (hs : A.length ≤ 100000 ∧ n ≤ 100000) (hp : p < n) :
  DR E 72 [va, vw, .int .i64 p] ⟨h, h.length⟩ (.ret (.int .i64 (actW A (invA A) w p))) ⟨h, h.length⟩ := by
 refine hE.fn (body := rb72) rfl ?_
 unfold rb72
 obtain ⟨aa, ab, ao, ac, avs, rfl, ha, har⟩ := hA.at
 obtain ⟨wa, wb, wo, wc, rfl, hwa, hwr⟩ := hw.at
 have hwlen : w.length < 2 ^ 62 := by obtain ⟨_, _, _, _, _, _, _, _, h5⟩ := hw; exact h5
 have rA : RowsOk n A := fun k hk => ⟨(hP k hk).len, (hP k hk).rng⟩
 have rB : RowsOk n (invA A) := fun k hk => by
  rw [invA_length] at hk
  rw [invA_at hk]
  exact ⟨(hP k hk).inv.len, (hP k hk).inv.rng⟩
 simp
 refine DW_loop (fun kk fr st => ∃ (j : Nat), j + kk = w.length ∧ st = ⟨h, h.length⟩ ∧ get fr 0 = .slice aa A.length ac ∧ get fr 2 = .int .i64 (actN A (invA A) w p j) ∧ get fr 10 = .slice wa w.length wc ∧ get fr 11 = .int .i64 w.length ∧ get fr 12 = .int .i64 j) ?_ (k := w.length) ?_
 ·rintro kk fr st ⟨j, hjk, rfl, g0, g2, g10, g11, g12⟩
  by_cases hj : j < w.length
  ·have hwj : IntKind.i64.wrap ((j : Int) + 1) = (j : Int) + 1 := by rw [w64_id] <;> omega
   obtain rfl := hwa (by omega)
   have hin := actN_in rA rB hL (invA_length A) (p := (p : Int)) (by omega) j (by omega)
   obtain ⟨q, hq⟩ : ∃ q : Nat, actN A (invA A) w p j = q := ⟨(actN A (invA A) w p j).toNat, by omega⟩
   have hlt := hL j hj
   rw [hq] at g2 hin
   by_cases hpos : 0 < nth w j
   ·obtain ⟨y, hy⟩ : ∃ y : Nat, nth w j - 1 = y := ⟨(nth w j - 1).toNat, by omega⟩
    have hwy : IntKind.i64.wrap (nth w j - 1) = y := by rw [w64_id] <;> omega
    have hyl : y < A.length := by omega
    obtain rfl := ha (by omega)
    obtain ⟨r1, r2⟩ := har y hyl
    have hrow := rA y hyl
    obtain ⟨ra, rb, ro, rc, hrv, hra, hrr⟩ := r2.at
    obtain rfl := hra (by omega)
    have hpl : q < (nthR A y).length := by omega
    rw [hrv] at r1
    have hnext : actN A (invA A) w p (j + 1) = nth (nthR A y) q := by
     simp only [actN, actL, hq]
     rw [if_pos hpos, hy]
     simp
    simp [g0, g2, g10, g11, g12, hj, rd_def, hwr j hj, hpos, hwy, hyl, r1, hpl, hrr q hpl, hwj]
    exact ⟨kk - 1, by omega, j + 1, by omega, hnext.symm, by omega⟩
   ·obtain ⟨y, hy⟩ : ∃ y : Nat, -nth w j - 1 = y := ⟨(-nth w j - 1).toNat, by omega⟩
    have hwn : IntKind.i64.wrap (-nth w j) = -nth w j := by rw [w64_id] <;> omega
    have hwy : IntKind.i64.wrap (-nth w j - 1) = y := by rw [w64_id] <;> omega
    have hyl : y < A.length := by omega
    obtain rfl := ha (by omega)
    obtain ⟨r1, r2⟩ := har y hyl
    have hrow := hP y hyl
    have hrl := hrow.len
    obtain ⟨ra, rb, ro, rc, hrv, hra, hrr⟩ := r2.at
    obtain rfl := hra (by omega)
    rw [hrv] at r1
    obtain ⟨i0, hi0, hi1⟩ := hrow.onto (v := q) (by omega)
    have hnext : actN A (invA A) w p (j + 1) = i0 := by
     simp only [actN, actL, hq]
     rw [if_neg hpos, hy]
     have := invL_at hrow hi0
     rw [hi1] at this
     rw [Int.toNat_natCast, invA_at hyl]
     exact this
    simp [g0, g2, g10, g11, g12, hj, rd_def, hwr j hj, hpos, hwj]
    refine DW_loop (fun kk' fr st => ∃ (k : Nat), k + kk' = i0 ∧ st = ⟨h, h.length⟩ ∧ get fr 0 = .slice (some ⟨ab, ao, none⟩) A.length ac ∧ get fr 2 = .int .i64 q ∧ get fr 8 = .int .i64 (nth w j) ∧ get fr 9 = .int .i64 k ∧ get fr 10 = .slice (some ⟨wb, wo, none⟩) w.length wc ∧ get fr 11 = .int .i64 w.length ∧ get fr 12 = .int .i64 j) ?_ (k := i0) ?_
    ·clear g0 g2 g10 g11 g12
     rintro kk' fr st ⟨k, hkk, rfl, g0, g2, g8, g9, g10, g11, g12⟩
     have hkl : k < (nthR A y).length := by omega
     have hwk : IntKind.i64.wrap ((k : Int) + 1) = (k : Int) + 1 := by rw [w64_id] <;> omega
     by_cases hk : k = i0
     ·subst hk
      simp [g0, g2, g8, g9, g10, g11, g12, rd_def, hwn, hwy, hyl, r1, hkl, hrr k hkl, hi1, hwj]
      exact ⟨kk - 1, by omega, j + 1, by omega, hnext.symm, by omega⟩
     ·have hne : ¬ nth (nthR A y) k = (q : Int) := fun e => by
       have := hrow.inj k i0 (by omega) hi0
       rw [e, hi1] at this
       exact this rfl
      simp [g0, g2, g8, g9, g10, g11, g12, rd_def, hwn, hwy, hyl, r1, hkl, hrr k hkl, hne, hwk]
      exact ⟨kk' - 1, by omega, k + 1, by omega, by omega⟩
    ·simp [g0, g2, g10, g11, g12]
  ·have hjw : j = w.length := by omega
   subst hjw
   simp [g0, g2, g10, g11, g12, endK_ret, ← actW_eq]
 ·exact ⟨0, by omega, rfl, by simp [actN]⟩
end Go.Proofs.Ytjlkndkedknocaa
namespace Go.Proofs.Ytjlkndkedknocaa
open Go Go.Ai
attribute [local instance] Classical.propDecidable
variable {E : Env} (hE : OE E)
include hE
end Go.Proofs.Ytjlkndkedknocaa
namespace Go.Ai
def PartI (h : List O) (v : Value) : Prop := ∃ a n c, v = .slice a n c ∧ n ≤ c ∧ ∀ b o, a = some ⟨b, o, none⟩ → tagOk h 1 b = true
end Go.Ai
namespace Go.Proofs.Ytjlkndkedknocaa
open Go Go.Ai
attribute [local instance] Classical.propDecidable
variable {E : Env} (hE : OE E)
include hE
end Go.Proofs.Ytjlkndkedknocaa
namespace Go.Ai
def szL (xs : List Int) : Nat := (xs.map Int.toNat).sum
theorem szL_set : ∀ {xs : List Int} {i : Nat} (v : Int), i < xs.length → szL (xs.set i v) + (nth xs i).toNat = szL xs + v.toNat := by
 intro xs
 induction xs with
 | nil => intro i v h; simp at h
 | cons y ys ih =>
  intro i v h
  cases i with
  | zero => simp [szL, nth]; omega
  | succ i =>
   have := ih (i := i) v (by simpa using h)
   simp only [szL, List.set_cons_succ, List.map_cons, List.sum_cons] at this ⊢
   have e : nth (y :: ys) (i + 1) = nth ys i := by simp [nth]
   rw [e]
   omega
structure FixR (r : Nat → Nat) (N : Nat) (xs : List Int) : Prop where
 len : xs.length = N
 val : ∀ i, i < N → ∃ u : Nat, nth xs i = u ∧ u ≤ i ∧ r u = r i
theorem FixR.set {r : Nat → Nat} {N : Nat} {xs : List Int} (h : FixR r N xs) {i u : Nat} (hi : i < N) (hu : u ≤ i) (hr : r u = r i) : FixR r N (xs.set i u) := by
 refine ⟨by rw [List.length_set]; exact h.len, fun j hj => ?_⟩
 rw [nth_set (by rw [h.len]; exact hi)]
 by_cases e : j = i
 ·rw [if_pos e, e]; exact ⟨u, rfl, hu, hr⟩
 ·rw [if_neg e]; exact h.val j hj
theorem FixR.done {X : Nat → Nat → Nat} {n N : Nat} {xs : List Int} (h : FixR (archR X n) N xs) (hX : ∀ c, c < n → nth xs (X c 1) = nth xs (X c 3)) {i : Nat} (hi : i < N) : nth xs i = archR X n i := by
 have hr := archR_rep X n
 have e := archR_const (f := fun j => nth xs j) n hX i
 have hle := hr.le i
 obtain ⟨u, h1, h2, h3⟩ := h.val (archR X n i) (by omega)
 have h4 := hr.le u
 rw [h3, hr.idem] at h4
 rw [← e, h1]
 omega
end Go.Ai
namespace Go.Proofs.Ytjlkndkedknocaa
open Go Go.Ai
attribute [local instance] Classical.propDecidable
variable {E : Env} (hE : OE E)
include hE
theorem archesR_ {h0 : List O} {a : Option Addr} {n c : Nat} {x : Nat → Nat → Int} {s : Nat → Int} {L : Int} (hx : CrossP h0 a n x s) (hS : Snd n x s L) :
  DC E 59 [dV a n c L] ⟨h0, h0.length⟩ fun o st' => ∃ b, o = .ret (.tuple #[.slice (some ⟨b, 0, none⟩) (2 * n) (2 * n), .int .i64 (arC (dgOf n x s L) + L)]) ∧ Sub h0 st'.h ∧ h0.length ≤ st'.fl ∧ h0.length ≤ b ∧ st'.h[b]? = some (.cells (intsC (arL (dgOf n x s L))) 3 (some 0)) := by
 refine hE.fnC (body := rb59) rfl ?_
 unfold rb59
 obtain ⟨G, hGe⟩ : ∃ G, G = dgOf n x s L := ⟨_, rfl⟩
 have hG : GoodG G := by rw [hGe]; exact good_of hS
 have hGn : G.n = n := by rw [hGe]; rfl
 have hGL : G.L = L := by rw [hGe]; rfl
 have hsz := hG.size
 have hXx : ∀ i q, i < n → q < 4 → x i q = (G.X i q : Int) := fun i q hi hq => by rw [hGe]; exact sound_x hS hi hq
 have hXlt : ∀ i q, i < n → q < 4 → G.X i q < 2 * n := fun i q hi hq => by rw [← hGn]; exact hG.X i q (by rw [hGn]; exact hi) hq
 rw [← hGe]
 obtain ⟨N, hN⟩ : ∃ N, N = 2 * n := ⟨_, rfl⟩
 have hw2 : IntKind.i64.wrap (2 * (n : Int)) = (N : Int) := by rw [w64_id] <;> omega
 have e1 : (N : Int) * 8 ≤ 140737488355328 := by omega
 have e2 : (N : Int) < 4611686018427387904 := by omega
 have hrep : rep N [Value.int .i64 0] = intsC (List.replicate N 0) := by simp [rep, intsC]
 obtain ⟨F, hF⟩ : ∃ F, F = h0.length + 1 := ⟨_, rfl⟩
 obtain ⟨h1, hh1⟩ : ∃ H, H = h0 ++ [O.cells [.slice a n c, .int .i64 L] 24 (some 0)] := ⟨_, rfl⟩
 have l1 : h1.length = h0.length + 1 := by rw [hh1]; simp
 have b0 : h1[h0.length]? = some (O.cells [.slice a n c, .int .i64 L] 24 (some 0)) := by rw [hh1, app_at0]; rfl
 have s1 : Sub h0 h1 := by rw [hh1]; exact (Sub.refl _).app _
 simp only [dV]
 simp [← hh1, rd_def, b0, hw2, e1, e2, hrep, ← hN]
 rw [← l1] at hF
 rw [← hF]
 have hr := arR_rep G
 refine DW_loop (fun kk fr st => ∃ (i : Nat) (xs : List Int), i + kk = N ∧ st = ⟨h1 ++ [.cells (intsC xs) 3 (some 0)], h0.length⟩ ∧ xs.length = N ∧ (∀ j, j < N → nth xs j = if j < i then (j : Int) else 0) ∧
  get fr 1 = .pointer (some ⟨h0.length, 0, none⟩) ∧ get fr 4 = .slice (some ⟨F, 0, none⟩) N N ∧ get fr 22 = .int .i64 N ∧ get fr 23 = .int .i64 i) ?_ (k := N) ?_
 ·rintro kk fr st ⟨i, xs, hik, rfl, hxl, hxs, g1, g4, g22, g23⟩
  by_cases hi : i < N
  ·have hw : IntKind.i64.wrap ((i : Int) + 1) = (i : Int) + 1 := by rw [w64_id] <;> omega
   have hmn : min h0.length F = h0.length := by omega
   have hbF : (h1 ++ [.cells (intsC xs) 3 (some 0)])[F]? = some (O.cells (intsC xs) 3 (some 0)) := by rw [hF, app_at0]; rfl
   have hset : (h1 ++ [O.cells (intsC xs) 3 (some 0)]).set F (O.cells (intsC (xs.set i (i : Int))) 3 (some 0)) = h1 ++ [O.cells (intsC (xs.set i (i : Int))) 3 (some 0)] := by rw [hF, set_at0]; rfl
   have hi1 : i + 1 ≤ N := by omega
   simp [g1, g4, g22, g23, hi, hi1, hw, wrN_def, ↓hbF, hxl, intsC_set, hmn, ↓hset]
   refine ⟨kk - 1, by omega, i + 1, by omega, xs.set i i, rfl, by simp [hxl], fun j hj => ?_, by omega⟩
   rw [nth_set (by rw [hxl]; exact hi), hxs j hj]
   by_cases e : j = i
   ·rw [if_pos e, if_pos (by omega), e]
   ·rw [if_neg e]
    by_cases e2 : j < i
    ·rw [if_pos e2, if_pos (by omega)]
    ·rw [if_neg e2, if_neg (by omega)]
  ·have hiN : i = N := by omega
   obtain ⟨h2, hh2⟩ : ∃ H, H = h1 ++ [O.cells (intsC xs) 3 (some 0)] := ⟨_, rfl⟩
   have l2 : h2.length = h1.length + 1 := by rw [hh2]; simp
   have s2 : Sub h1 h2 := by rw [hh2]; exact (Sub.refl _).app _
   have cF : h2[F]? = some (O.cells (intsC xs) 3 (some 0)) := by rw [hh2, hF, app_at0]; rfl
   have hfix : FixR (arR G) N xs := ⟨hxl, fun j hj => ⟨j, by rw [hxs j hj, if_pos (by omega)], Nat.le_refl _, rfl⟩⟩
   simp [g1, g4, g22, g23, hiN]
   rw [← hh2]
   refine DW_loop (fun kk fr st => ∃ (h : List O) (ys : List Int) (more : Bool), st = ⟨h, h0.length⟩ ∧ Sub h1 h ∧ AtB h F (.cells (intsC ys) 3 (some 0)) ∧ FixR (arR G) N ys ∧ get fr 1 = .pointer (some ⟨h0.length, 0, none⟩) ∧ get fr 4 = .slice (some ⟨F, 0, none⟩) N N ∧ get fr 6 = .bool more ∧
    ((more = true ∧ kk = szL ys + 1) ∨ (more = false ∧ kk = 0 ∧ ∀ c, c < n → nth ys (G.X c 1) = nth ys (G.X c 3)))) ?_ (k := szL xs + 1) ?_
   ·clear g1 g4 g22 g23
    rintro kk fr st ⟨h, ys, more, rfl, hsub, aF, hfy, g1, g4, g6, hm⟩
    rcases hm with ⟨rfl, rfl⟩ | ⟨rfl, rfl, hdone⟩
    ·have c0 := hsub _ _ b0
     simp [g1, g4, g6, rd_def, ↓c0]
     refine DW_loop (fun kk' fr st => ∃ (j : Nat) (h' : List O) (zs : List Int) (ch : Bool), j + kk' = n ∧ st = ⟨h', h0.length⟩ ∧ Sub h1 h' ∧ AtB h' F (.cells (intsC zs) 3 (some 0)) ∧ FixR (arR G) N zs ∧ (ch = true → szL zs < szL ys) ∧ (ch = false → zs = ys ∧ ∀ c, c < j → nth zs (G.X c 1) = nth zs (G.X c 3)) ∧
      get fr 1 = .pointer (some ⟨h0.length, 0, none⟩) ∧ get fr 4 = .slice (some ⟨F, 0, none⟩) N N ∧ get fr 6 = .bool ch ∧ get fr 33 = .slice a n c ∧ get fr 34 = .int .i64 n ∧ get fr 35 = .int .i64 j) ?_ (k := n) ?_
     ·clear g1 g4 g6
      rintro kk' fr st ⟨j, h', zs, ch, hjk, rfl, hsub', aF', hfz, hc1, hc2, g1, g4, g6, g33, g34, g35⟩
      unfold AtB at aF'
      by_cases hj : j < n
      ·have hw : IntKind.i64.wrap ((j : Int) + 1) = (j : Int) + 1 := by rw [w64_id] <;> omega
       obtain ⟨xb, xo, hxa, hxr⟩ := hx
       obtain rfl := hxa (by omega)
       have hcr : rdN h' xb (xo + j * 5) 5 = some (crossC (x j) (s j)) := Sub.rdN (s1.trans hsub') (hxr j hj)
       rw [rdN_def] at hcr
       simp only [crossC] at hcr
       rw [hXx j 0 hj (by omega), hXx j 1 hj (by omega), hXx j 2 hj (by omega), hXx j 3 hj (by omega)] at hcr
       obtain ⟨p, hp⟩ : ∃ p, p = G.X j 1 := ⟨_, rfl⟩
       obtain ⟨q, hq⟩ : ∃ q, q = G.X j 3 := ⟨_, rfl⟩
       have hpN : p < N := by rw [hp, hN]; exact hXlt j 1 hj (by omega)
       have hqN : q < N := by rw [hq, hN]; exact hXlt j 3 hj (by omega)
       obtain ⟨u, u1, u2, u3⟩ := hfz.val p hpN
       obtain ⟨v, v1, v2, v3⟩ := hfz.val q hqN
       have hpq : arR G p = arR G q := by rw [hp, hq]; exact archR_eq G.X G.n j (by rw [hGn]; exact hj)
       have zl := hfz.len
       have gp : (intsC zs)[p]? = some (.int .i64 u) := by rw [← u1]; exact intsC_get (by omega)
       have gq : (intsC zs)[q]? = some (.int .i64 v) := by rw [← v1]; exact intsC_get (by omega)
       rw [← hp, ← hq] at hcr
       obtain ⟨h3, hh3⟩ : ∃ H, H = h' ++ [O.cells [.int .i64 (G.X j 0), .int .i64 p, .int .i64 (G.X j 2), .int .i64 q, .int .i64 (s j)] 107 (some 0)] := ⟨_, rfl⟩
       have lF := (List.getElem?_eq_some_iff.1 aF').1
       have d8 : h3[h'.length]? = some (O.cells [.int .i64 (G.X j 0), .int .i64 p, .int .i64 (G.X j 2), .int .i64 q, .int .i64 (s j)] 107 (some 0)) := by rw [hh3, app_at0]; rfl
       have dF : h3[F]? = some (O.cells (intsC zs) 3 (some 0)) := by rw [hh3]; exact app_of aF' _
       have hmn8 : min h0.length h'.length = h0.length := by have := (s1.trans hsub').len; omega
       have hmnF : min h0.length F = h0.length := by omega
       by_cases hpv : u = v
       ·subst hpv
        have hmm : maxminV false [Value.int .i64 u, .int .i64 u] = some (.int .i64 u) := by simp [maxminV, maxmin2]
        simp [g1, g4, g6, g33, g34, g35, hj, rd_def, rdN_def, hcr, wrN_at0, set_at0, hmn8, ↓← hh3, ↓d8, ↓dF, hpN, hqN, gp, gq, hmm, hw]
        refine ⟨kk' - 1, by omega, j + 1, by omega, by rw [hh3]; exact hsub'.app _, zs, dF, hfz, ?_⟩
        have heq : nth zs p = nth zs q := by rw [u1, v1]
        cases ch with
        | false =>
         obtain ⟨z1, z2⟩ := hc2 rfl
         refine .inl ⟨⟨z1, fun c hc => ?_⟩, rfl, by omega⟩
         by_cases e : c = j
         ·rw [e, ← hp, ← hq]; exact heq
         ·exact z2 c (by omega)
        | true => exact .inr ⟨hc1 rfl, rfl, by omega⟩
       ·obtain ⟨m, hm⟩ : ∃ m, m = min u v := ⟨_, rfl⟩
        have hmm : maxminV false [Value.int .i64 u, .int .i64 v] = some (.int .i64 m) := by
         simp only [maxminV, maxmin2]
         simp
         split <;> omega
        have hmc : m = u ∨ m = v := by omega
        have hmr1 : arR G m = arR G p := by
         rcases hmc with e | e
         ·rw [e]; exact u3
         ·rw [e, v3, hpq]
        have hmr2 : arR G m = arR G q := by rw [hmr1, hpq]
        have f1 := hfz.set (u := m) hpN (by omega) hmr1
        have f2 := f1.set (u := m) hqN (by omega) hmr2
        have hsz1 := szL_set (xs := zs) (i := p) (m : Int) (by omega)
        have hsz2 := szL_set (xs := zs.set p m) (i := q) (m : Int) (by rw [List.length_set]; omega)
        rw [nth_set (by omega)] at hsz2
        have hqp : q ≠ p := fun e => hpv (by rw [e] at v1; omega)
        rw [if_neg hqp, v1] at hsz2
        rw [u1] at hsz1
        have hlt : szL ((zs.set p m).set q m) < szL zs := by omega
        have hp1 : p + 1 ≤ N := by omega
        have hq1 : q + 1 ≤ N := by omega
        obtain ⟨h4, hh4⟩ : ∃ H, H = h3.set F (O.cells (intsC (zs.set p m)) 3 (some 0)) := ⟨_, rfl⟩
        have eF : h4[F]? = some (O.cells (intsC (zs.set p m)) 3 (some 0)) := by rw [hh4]; exact set_self dF
        obtain ⟨h5, hh5⟩ : ∃ H, H = h4.set F (O.cells (intsC ((zs.set p m).set q m)) 3 (some 0)) := ⟨_, rfl⟩
        have gF : h5[F]? = some (O.cells (intsC ((zs.set p m).set q m)) 3 (some 0)) := by rw [hh5]; exact set_self eF
        have hs5 : Sub h1 h5 := fun b o hb => by
         have := (List.getElem?_eq_some_iff.1 hb).1
         rw [hh5, hh4, hh3]
         exact set_ne (set_ne (app_of (hsub' _ _ hb) _) (by omega)) (by omega)
        have zl1 : (zs.set p (m : Int)).length = N := by rw [List.length_set]; omega
        have hne : ¬ (u = m ∧ v = m) := by omega
        have fin : ∃ x, AtB h5 F (O.cells (intsC x) 3 (some 0)) ∧ FixR (arR G) N x ∧ szL x < szL ys := by
         refine ⟨_, gF, f2, ?_⟩
         cases ch with
         | false => obtain ⟨z1, _⟩ := hc2 rfl; rw [← z1]; exact hlt
         | true => have := hc1 rfl; omega
        have hmi : min (u : Int) (v : Int) = (m : Int) := by omega
        by_cases hum : u = m
        ·have hvm : ¬ (v : Int) = m := by omega
         subst hum
         have hvm' : ¬ v = u := by omega
         simp [g1, g4, g6, g33, g34, g35, hj, rd_def, rdN_def, hcr, wrN_at0, set_at0, hmn8, ↓← hh3, ↓d8, ↓dF, hpN, hqN, gp, gq, hmm, hw, u1, v1, hmi, hvm, hvm', wrN_def, hp1, hq1, zl, intsC_set, hmnF, ↓← hh4, ↓eF, zl1, ↓← hh5]
         obtain ⟨xx, y1, y2, y3⟩ := fin
         exact ⟨kk' - 1, by omega, j + 1, by omega, hs5, xx, y1, y2, y3, by omega⟩
        ·simp [g1, g4, g6, g33, g34, g35, hj, rd_def, rdN_def, hcr, wrN_at0, set_at0, hmn8, ↓← hh3, ↓d8, ↓dF, hpN, hqN, gp, gq, hmm, hw, u1, v1, hmi, hum, wrN_def, hp1, hq1, zl, intsC_set, hmnF, ↓← hh4, ↓eF, zl1, ↓← hh5]
         obtain ⟨xx, y1, y2, y3⟩ := fin
         exact ⟨kk' - 1, by omega, j + 1, by omega, hs5, xx, y1, y2, y3, by omega⟩
      ·have hjn : j = n := by omega
       simp [g1, g4, g6, g33, g34, g35, hjn]
       cases ch with
       | false =>
        obtain ⟨z1, z2⟩ := hc2 rfl
        refine ⟨0, by omega, hsub', zs, aF', hfz, .inl ⟨rfl, rfl, fun c hc => z2 c (by omega)⟩⟩
       | true =>
        have := hc1 rfl
        refine ⟨szL zs + 1, by omega, hsub', zs, aF', hfz, .inr ⟨rfl, rfl⟩⟩
     ·exact ⟨0, h, ys, false, by omega, rfl, hsub, aF, hfy, (fun e => by cases e), (fun _ => ⟨rfl, fun c hc => by omega⟩), by simp [g1, g4]⟩
    ·have hval : ∀ j, j < N → nth ys j = arR G j := fun j hj => hfy.done (X := G.X) (n := G.n) (fun c hc => hdone c (by rw [← hGn]; exact hc)) hj
     have c0 := hsub _ _ b0
     have yl := hfy.len
     unfold AtB at aF
     have lF := (List.getElem?_eq_some_iff.1 aF).1
     have l01 := s1.len
     have lh := hsub.len
     obtain ⟨B, hB⟩ : ∃ B, B = h.length := ⟨_, rfl⟩
     simp [g1, g4, g6, e1, e2, hrep]
     rw [← hB]
     refine DW_loop (fun kk fr st => ∃ (i : Nat) (zs : List Int), i + kk = N ∧ st = ⟨h ++ [.cells (intsC zs) 3 (some 0)], h0.length⟩ ∧ zs.length = N ∧ (∀ j, j < i → nth zs j = arN G j) ∧
      get fr 1 = .pointer (some ⟨h0.length, 0, none⟩) ∧ get fr 12 = .slice (some ⟨B, 0, none⟩) N N ∧ get fr 13 = .int .i64 (cntR (arR G) i) ∧ get fr 80 = .slice (some ⟨F, 0, none⟩) N N ∧ get fr 81 = .int .i64 N ∧ get fr 82 = .int .i64 i) ?_ (k := N) ?_
     ·clear g1 g4 g6
      rintro kk fr st ⟨i, zs, hik, rfl, hzl, hzs, g1, g12, g13, g80, g81, g82⟩
      have bB : (h ++ [O.cells (intsC zs) 3 (some 0)])[B]? = some (O.cells (intsC zs) 3 (some 0)) := by rw [hB, app_at0]; rfl
      have bF : (h ++ [O.cells (intsC zs) 3 (some 0)])[F]? = some (O.cells (intsC ys) 3 (some 0)) := app_of aF _
      have b00 : (h ++ [O.cells (intsC zs) 3 (some 0)])[h0.length]? = some (O.cells [.slice a n c, .int .i64 L] 24 (some 0)) := app_of c0 _
      have hmB : min h0.length B = h0.length := by omega
      by_cases hi : i < N
      ·have hw : IntKind.i64.wrap ((i : Int) + 1) = (i : Int) + 1 := by rw [w64_id] <;> omega
       have hi1 : i + 1 ≤ N := by omega
       have gy : (intsC ys)[i]? = some (.int .i64 (arR G i)) := by rw [← hval i hi]; exact intsC_get (by omega)
       have hset : ∀ v : Int, (h ++ [O.cells (intsC zs) 3 (some 0)]).set B (O.cells (intsC (zs.set i v)) 3 (some 0)) = h ++ [O.cells (intsC (zs.set i v)) 3 (some 0)] := fun v => by rw [hB, set_at0]; rfl
       have hci : cntR (arR G) i ≤ i := cntP_le _ _
       have hci2 := cntR_succ (arR G) i
       have hle := hr.le i
       by_cases he : arR G i = i
       ·rw [if_pos he] at hci2
        have hwc : IntKind.i64.wrap ((cntR (arR G) i : Int) + 1) = (cntR (arR G) i : Int) + 1 := by rw [w64_id] <;> omega
        have he' : (arR G i : Int) = i := by omega
        have hNi : arN G i = cntR (arR G) i := by unfold arN; rw [he]
        simp [g1, g12, g13, g80, g81, g82, hi, hi1, hw, rd_def, ↓bF, ↓bB, gy, he, wrN_def, hzl, intsC_set, hmB, ↓hset, hwc]
        refine ⟨kk - 1, by omega, i + 1, by omega, _, rfl, by simp [hzl], fun j hj => ?_, by omega, by omega⟩
        rw [nth_set (by omega)]
        by_cases e : j = i
        ·rw [if_pos e, e, hNi]
        ·rw [if_neg e]; exact hzs j (by omega)
       ·rw [if_neg he] at hci2
        have he' : ¬ (arR G i : Int) = i := by omega
        have hrN : arR G i < N := by omega
        have gz : (intsC zs)[arR G i]? = some (.int .i64 (arN G (arR G i))) := by rw [← hzs _ (by omega)]; exact intsC_get (by omega)
        have hNi : arN G (arR G i) = arN G i := by unfold arN; rw [hr.idem]
        rw [hNi] at gz
        simp [g1, g12, g13, g80, g81, g82, hi, hi1, hw, rd_def, ↓bF, ↓bB, gy, gz, he, hrN, wrN_def, hzl, intsC_set, hmB, ↓hset]
        refine ⟨kk - 1, by omega, i + 1, by omega, _, rfl, by simp [hzl], fun j hj => ?_, by omega, by omega⟩
        rw [nth_set (by omega)]
        by_cases e : j = i
        ·rw [if_pos e, e, hzs _ (by omega), hNi]
        ·rw [if_neg e]; exact hzs j (by omega)
      ·have hiN2 : i = N := by omega
       have hwC : IntKind.i64.wrap ((cntR (arR G) N : Int) + L) = (arC G : Int) + L := by
        have h1 := arC_le G
        have h2 := hG.loops
        rw [hGL] at h2
        have h3 : cntR (arR G) N = arC G := by unfold arC; rw [hGn, ← hN]
        rw [h3, w64_id] <;> omega
       rw [hiN2] at g13 hzs
       have hzL : zs = arL G := eq_tabL (by rw [hzl, hGn, hN]) (fun j hj => hzs j (by rw [hN, ← hGn]; exact hj))
       simp [g1, g12, g13, g80, g81, g82, hiN2, rd_def, ↓b00, hwC]
       unfold pairQ back
       rw [if_neg (by simp [Out.scalar, scalar, flat1, flat])]
       exact ⟨B, rfl, (s1.trans hsub).app _, Nat.le_refl _, by omega, by rw [← hzL]; exact bB⟩
     ·exact ⟨0, List.replicate N 0, by omega, rfl, by simp, fun j hj => by omega, by simp [g1, g4, cntR, cntP]⟩
   ·exact ⟨h2, xs, true, rfl, s2, cF, hfix, by simp [g1], by simp [g4], by simp, .inl ⟨rfl, rfl⟩⟩
 ·exact ⟨0, List.replicate N 0, by omega, rfl, by simp, fun j hj => by rw [if_neg (by omega)]; simp [nth, hj], by simp⟩
end Go.Proofs.Ytjlkndkedknocaa
namespace Go.Proofs.Ytjlkndkedknocaa
open Go Go.Ai
attribute [local instance] Classical.propDecidable
variable {E : Env} (hE : OE E)
include hE
end Go.Proofs.Ytjlkndkedknocaa
namespace Go.Proofs.Ytjlkndkedknocaa
open Go Go.Ai
attribute [local instance] Classical.propDecidable
variable {E : Env} (hE : OE E)
include hE
theorem region_ {h0 : List O} {a : Option Addr} {n c : Nat} {x : Nat → Nat → Int} {s : Nat → Int} {L : Int} (hx : CrossP h0 a n x s) (hS : Snd n x s L) {e : Nat × Nat} (he : InV (dgOf n x s L) e) :
  DC E 199 [dV a n c L, endV e] ⟨h0, h0.length⟩ fun o st' => ∃ v, o = .ret v ∧ h0.length ≤ st'.fl ∧ Sub h0 st'.h ∧ OwnS st'.h h0.length v (per (dgOf n x s L) e) (cellsL (orbL (dgOf n x s L) e)) 72 2 := by
 refine hE.fnC (body := rb199) rfl ?_
 unfold rb199
 have hG := good_of hS
 have hoth := fun {y : Nat × Nat} (hy : InV (dgOf n x s L) y) h k => other_ hE (h0 := h) (a := a) (x := x) (c := c) k hS hy
 simp only [dV, endV] at hoth
 obtain ⟨G, hGe⟩ : ∃ G, G = dgOf n x s L := ⟨_, rfl⟩
 rw [← hGe] at hG he ⊢
 simp only [← hGe] at hoth
 have hGn : G.n = n := by rw [hGe]; rfl
 have hsz := hG.size
 obtain ⟨⟨hm, hmend, hm4⟩, hmid⟩ := per_spec hG he
 simp [dV, endV, rdN_at0, rdN_at, List.append_assoc]
 obtain ⟨hB, hhB⟩ : ∃ H, H = h0 ++ [O.cells [.slice a n c, .int .i64 L] 24 (some 0), O.cells [.int .i64 e.1, .int .i64 e.2] 72 (some 0)] := ⟨_, rfl⟩
 have lB : hB.length = h0.length + 2 := by rw [hhB]; simp
 have sB : Sub h0 hB := by rw [hhB]; exact (Sub.refl _).app _
 have bB : hB[h0.length]? = some (O.cells [.slice a n c, .int .i64 L] 24 (some 0)) := by rw [hhB, app_at0]; rfl
 have bE : hB[h0.length + 1]? = some (O.cells [.int .i64 e.1, .int .i64 e.2] 72 (some 0)) := by rw [hhB, app_at]; rfl
 refine DW_loop (fun kk fr st => ∃ (i : Nat) (h : List O) (bi : Nat), i + kk = per G e ∧ 0 < i ∧ st = ⟨h, h0.length⟩ ∧ Sub hB h ∧ OwnS h hB.length (.slice (some ⟨bi, 0, none⟩) i i) i (cellsL (orbN G e i)) 72 2 ∧ get fr 2 = .pointer (some ⟨h0.length, 0, none⟩) ∧ get fr 3 = .pointer (some ⟨h0.length + 1, 0, none⟩) ∧ get fr 5 = .slice (some ⟨bi, 0, none⟩) i i) ?_ (k := per G e - 1) ?_
 ·rintro kk fr st ⟨i, h, bi, hik, hi0, rfl, hsub, hown, g2, g3, g5⟩
  have hsl := hsub.len
  obtain ⟨hlo, sz, hcell⟩ := hown.at_
  obtain ⟨j, rfl⟩ : ∃ j, i = j + 1 := ⟨i - 1, by omega⟩
  have hy := orb_inV hG he j
  have hot := hoth hy
  have hcat : ((cellsL (orbN G e (j + 1))).drop (j * 2)).take 2 = [.int .i64 (orb G e j).1, .int .i64 (orb G e j).2] := cellsL_at (orbN_at (Nat.lt_succ_self j))
  have hcl : j * 2 + 2 ≤ (cellsL (orbN G e (j + 1))).length := by rw [cellsL_length, orbN_length]; omega
  have hon := oth_spec hG hy
  have h2lt := hon.1.2.1
  obtain ⟨o1, ho1⟩ : ∃ o1, o1 = oth G (orb G e j) := ⟨_, rfl⟩
  have hg : orb G e (j + 1) = (o1.1, (o1.2 + 3) % 4) := by rw [ho1]; rfl
  rw [← ho1] at hot h2lt
  have hb2 : h[h0.length]? = some (O.cells [.slice a n c, .int .i64 L] 24 (some 0)) := hsub _ _ bB
  have hbe : h[h0.length + 1]? = some (O.cells [.int .i64 e.1, .int .i64 e.2] 72 (some 0)) := hsub _ _ bE
  have hcs : CrossP h a n x s := hx.sub (sB.trans hsub)
  have hwm : IntKind.i64.wrap (j : Int) = j := by rw [w64_id] <;> omega
  have hwp : IntKind.i64.wrap ((o1.2 : Int) + 3) = (o1.2 : Int) + 3 := by rw [w64_id] <;> omega
  have hmod : ((o1.2 : Int) + 3).tmod 4 = ((o1.2 + 3) % 4 : Nat) := tmod_add _ 3 4
  obtain ⟨w, hww⟩ : ∃ w, w = (o1.2 + 3) % 4 := ⟨_, rfl⟩
  rw [← hww] at hmod hg
  have hj1 : (j : Int) < (j : Int) + 1 := by omega
  have hE1 : ∀ l, (h ++ l)[h0.length + 1]? = some (O.cells [.int .i64 e.1, .int .i64 e.2] 72 (some 0)) := fun l => app_of hbe l
  have hmin : min h0.length h.length = h0.length := by omega
  have hmin2 : min h0.length (h.length + 1) = h0.length := by omega
  have hdec : (Nat.testBit 511 7 = true ∧ (Nat.testBit 511 6 = false → ¬h.length = bi) ∧ (Nat.testBit 511 3 = false → ¬h.length = bi)) := ⟨by decide, fun h => absurd h (by decide), fun h => absurd h (by decide)⟩
  by_cases hend : orb G e (j + 1) = e
  ·have hper : j + 1 = per G e := by
    apply Classical.byContradiction
    intro hne
    exact hmid (j + 1) (by omega) (by omega) hend
   have he1 : o1.1 = e.1 ∧ w = e.2 := by rw [hg] at hend; rw [← hend]; exact ⟨rfl, rfl⟩
   obtain ⟨e1, e2⟩ := he1
   simp [g2, g3, g5, rd_def, rdN_def, hb2, hcell, hcl, hcat, hwm, hj1, DC_when hot, hcs, joined_fl, wrN_at0, set_at0, wrN_at, set_at, app_at0, app_at, hwp, hmod, hE1, List.append_assoc, e1, e2, endK_ret, hmin, hmin2]
   refine ⟨hdec, ?_⟩
   unfold pairQ back
   rw [if_neg (by simp [Out.scalar, scalar, flat1, flat])]
   refine ⟨_, rfl, Nat.le_refl _, (sB.trans hsub).app _, ?_⟩
   have ho2 : OwnS (h ++ [O.cells [.int .i64 e.1, .int .i64 o1.2] 72 (some 0), O.cells [.int .i64 e.1, .int .i64 e.2] 72 (some 0)]) hB.length (.slice (some ⟨bi, 0, none⟩) (j + 1) (j + 1)) (j + 1) (cellsL (orbN G e (j + 1))) 72 2 := hown.keep fun b s _ k => app_of k _
   rw [show orbL G e = orbN G e (j + 1) by rw [hper]; rfl, ← hper]
   obtain ⟨q1, q2⟩ := ho2
   rcases q2 with q2 | ⟨b, s', q2, q3, q4, q5⟩
   ·exact ⟨q1, .inl q2⟩
   ·exact ⟨q1, .inr ⟨b, s', q2, by omega, q4, q5⟩⟩
  ·have hne : (decide (o1.1 = e.1) && decide (w = e.2)) = false := by
    rw [Bool.and_eq_false_iff, decide_eq_false_iff_not, decide_eq_false_iff_not]
    by_cases h1 : o1.1 = e.1
    ·exact .inr fun h2 => hend (by rw [hg]; exact Prod.ext h1 h2)
    ·exact .inl h1
   have hjp : j + 1 < per G e := by
    rcases Nat.lt_or_ge (j + 1) (per G e) with h | h
    ·exact h
    ·exact absurd (by rw [show j + 1 = per G e by omega]; exact hmend) hend
   obtain ⟨H3, hH3⟩ : ∃ H, H = h ++ [O.cells [.int .i64 o1.1, .int .i64 o1.2] 72 (some 0), O.cells [.int .i64 o1.1, .int .i64 w] 72 (some 0), O.cells [.int .i64 o1.1, .int .i64 w] 72 (some 0)] := ⟨_, rfl⟩
   have S3 : Sub h H3 := by rw [hH3]; exact (Sub.refl _).app _
   have ho3 : OwnS H3 hB.length (.slice (some ⟨bi, 0, none⟩) (j + 1) (j + 1)) (j + 1) (cellsL (orbN G e (j + 1))) 72 2 := hown.keep fun b s _ k => S3 _ _ k
   have hrd : readSlice H3 2 1 (some ⟨h.length + 2, 0, none⟩) = some [.int .i64 o1.1, .int .i64 w] := slice_read (by rw [hH3, app_at]; rfl) rfl
   have l3 : h.length ≤ H3.length := S3.len
   obtain ⟨b', H4, f4, happ, hb', hown4, hf1, hf2, hl4, hk4⟩ := append_S (fl := h0.length) (c := 1) (bytes := 16) ho3 hrd rfl rfl (by omega) (by simp only [roomMax]; omega) (by omega)
   have hf4 : f4 = h0.length := by omega
   have hdrop : ∀ (l : List (Nat × Nat)) (y : Nat × Nat), cellsL l ++ [.int .i64 y.1, .int .i64 y.2] = cellsL (l ++ [y]) := fun l y => (cellsL_app l y).symm
   simp [g2, g3, g5, rd_def, rdN_def, hb2, hcell, hcl, hcat, hwm, hj1, DC_when hot, hcs, joined_fl, wrN_at0, set_at0, wrN_at, set_at, app_at0, app_at, hwp, hmod, hE1, List.append_assoc, hne, endK_ret, hmin, hmin2, ← hH3, happ, hf4]
   refine ⟨hdec, kk - 1, by omega, j + 1 + 1, by omega, by omega, fun b o hb => hk4 b o (S3 _ _ (hsub _ _ hb)) fun n' c' ev => ?_, b', ?_, rfl, rfl⟩
   ·have := (List.getElem?_eq_some_iff.1 hb).1
    simp only [Value.slice.injEq, Option.some.injEq, Addr.mk.injEq] at ev
    omega
   ·rw [orbN_succ, hg, cellsL_app]
    exact hown4
 ·refine ⟨1, h0 ++ [O.cells [.slice a n c, .int .i64 L] 24 (some 0), O.cells [.int .i64 e.1, .int .i64 e.2] 72 (some 0), O.cells [.int .i64 e.1, .int .i64 e.2] 72 (some 0)], h0.length + 2, by omega, by omega, rfl, ?_, ?_, ?_⟩
  ·rw [hhB]; exact Ext.sub ⟨[O.cells [.int .i64 e.1, .int .i64 e.2] 72 (some 0)], by simp⟩
  ·refine ⟨rfl, .inr ⟨_, 0, rfl, by omega, ?_, .inl rfl⟩⟩
   rw [app_at]; rfl
  ·simp
end Go.Proofs.Ytjlkndkedknocaa
namespace Go.Proofs.Ytjlkndkedknocaa
open Go Go.Ai
attribute [local instance] Classical.propDecidable
def RegsQ (h : List O) (lo : Nat) (v : Value) (L : List (List (Nat × Nat))) : Prop :=
 ∃ vs, OwnT h lo v L.length vs 215 1 ∧ ∀ (i : Nat) r, L[i]? = some r → ∃ v', vs[i]? = some v' ∧ OwnS h lo v' r.length (cellsL r) 72 2
theorem RegsQ.keep {h h' : List O} {lo : Nat} {v : Value} {L : List (List (Nat × Nat))} (k : RegsQ h lo v L) (hk : Sub h h') : RegsQ h' lo v L := by
 obtain ⟨vs, h1, h2⟩ := k
 refine ⟨vs, h1.keep fun b s _ _ e => hk _ _ e, fun i r hr => ?_⟩
 obtain ⟨v', h3, h4⟩ := h2 i r hr
 exact ⟨v', h3, h4.keep fun b s _ e => hk _ _ e⟩
theorem RegsQ.low {h : List O} {lo lo' : Nat} {v : Value} {L : List (List (Nat × Nat))} (k : RegsQ h lo v L) (hl : lo' ≤ lo) : RegsQ h lo' v L := by
 have low : ∀ {v k cs el size}, OwnS h lo v k cs el size → OwnS h lo' v k cs el size := fun ⟨h0, h1⟩ => by
  rcases h1 with h1 | ⟨b, s, h1, h2, h3⟩
  ·exact ⟨h0, .inl h1⟩
  ·exact ⟨h0, .inr ⟨b, s, h1, Nat.le_trans hl h2, h3⟩⟩
 obtain ⟨vs, h1, h2⟩ := k
 refine ⟨vs, ?_, fun i r hr => ?_⟩
 ·rcases h1 with h1 | h1
  ·exact .inl h1
  ·exact .inr (low h1)
 ·obtain ⟨v', h3, h4⟩ := h2 i r hr
  exact ⟨v', h3, low h4⟩
theorem RegsQ.at_ {h : List O} {lo : Nat} {v : Value} {L : List (List (Nat × Nat))} (k : RegsQ h lo v L) : ∃ a, v = .slice a L.length L.length ∧
  ∀ (i : Nat) r, L[i]? = some r → r ≠ [] → ∃ b b' s s' vs, a = some ⟨b, 0, none⟩ ∧ lo ≤ b ∧ lo ≤ b' ∧ h[b]? = some (.cells vs 215 (some s)) ∧ vs[i]? = some (.slice (some ⟨b', 0, none⟩) r.length r.length) ∧ h[b']? = some (.cells (cellsL r) 72 (some s')) := by
 obtain ⟨vs, h1, h2⟩ := k
 obtain ⟨a, rfl, ha⟩ := h1.look
 refine ⟨a, rfl, fun i r hr hne => ?_⟩
 have hi := (List.getElem?_eq_some_iff.1 hr).1
 obtain ⟨b, s, rfl, hb1, hb2⟩ := ha (by omega)
 obtain ⟨v', h3, h4, h5⟩ := h2 i r hr
 rcases h5 with ⟨_, h6⟩ | ⟨b', s', rfl, h7, h8, _⟩
 ·exact absurd (List.length_eq_zero_iff.1 h6) hne
 ·exact ⟨b, b', s, s', vs, rfl, hb1, h7, hb2, h3, h8⟩
theorem RegsQ.push {h : List O} {lo fl c : Nat} {v v' : Value} {xb : Option Addr} {L : List (List (Nat × Nat))} {r : List (Nat × Nat)} (k : RegsQ h lo v L) (ho : OwnS h lo v' r.length (cellsL r) 72 2) (hx : readSlice h 1 1 xb = some [v']) (hone : one1 v' = true) (hlo : lo ≤ h.length) (hroom : (L.length + 1) * 24 ≤ roomMax) :
  ∃ b' h' fl', appendV 215 1 24 v (.slice xb 1 c) ⟨h, fl⟩ = some (.slice (some ⟨b', 0, none⟩) (L.length + 1) (L.length + 1), ⟨h', fl'⟩) ∧ RegsQ h' lo (.slice (some ⟨b', 0, none⟩) (L.length + 1) (L.length + 1)) (L ++ [r]) ∧ min fl lo ≤ fl' ∧ fl' ≤ fl ∧ h.length ≤ h'.length ∧
   (∀ (b : Nat) (o : O), h[b]? = some o → (b < lo ∨ ∀ c : List Value, ∀ s, o ≠ .cells c 215 s) → h'[b]? = some o) := by
 obtain ⟨vs, h1, h2⟩ := k
 have hl := h1.len
 obtain ⟨b', h', fl', e1, e2, e3, e4, e5, e6, hs⟩ := append_T (fl := fl) (c := c) (bytes := 24) h1 hx rfl (by simp [hone]) hlo hroom (by omega)
 have keep : ∀ {v k cs}, OwnS h lo v k cs 72 2 → OwnS h' lo v k cs 72 2 := fun h => h.keep fun b s _ e => hs _ _ e (.inr fun c s' e' => by cases e')
 refine ⟨b', h', fl', e1, ⟨vs ++ [v'], by rw [List.length_append]; exact e3, fun i q hq => ?_⟩, e4, e5, e6, hs⟩
 by_cases hi : i < L.length
 ·rw [List.getElem?_append_left hi] at hq
  obtain ⟨v2, h3, h4⟩ := h2 i q hq
  exact ⟨v2, by rw [List.getElem?_append_left (by omega)]; exact h3, keep h4⟩
 ·rw [List.getElem?_append_right (by omega)] at hq
  have e0 : i - L.length = 0 := by
   rcases Nat.eq_zero_or_pos (i - L.length) with h | h
   ·exact h
   ·rw [List.getElem?_eq_none (by simp; omega)] at hq; cases hq
  rw [e0] at hq
  obtain rfl := Option.some.inj hq
  exact ⟨v', by rw [List.getElem?_append_right (by omega), show i - vs.length = 0 by omega]; rfl, keep ho⟩
theorem OwnS.low {h : List O} {lo lo' k : Nat} {v : Value} {cs : List Value} {el : TypeId} {size : Nat} (ho : OwnS h lo v k cs el size) (hl : lo' ≤ lo) : OwnS h lo' v k cs el size := by
 obtain ⟨h0, h1⟩ := ho
 rcases h1 with h1 | ⟨b, s, h1, h2, h3⟩
 ·exact ⟨h0, .inl h1⟩
 ·exact ⟨h0, .inr ⟨b, s, h1, Nat.le_trans hl h2, h3⟩⟩
theorem RegsQ.scalar {h : List O} {lo : Nat} {v : Value} {L : List (List (Nat × Nat))} (k : RegsQ h lo v L) (hs : Ai.scalar v = true) : L = [] ∧ ∀ h', RegsQ h' lo v L := by
 obtain ⟨vs, h1, h2⟩ := k
 rcases h1 with ⟨rfl, h3, rfl⟩ | ⟨h4, ⟨rfl, h5⟩ | ⟨b, s, rfl, h6⟩⟩
 ·have : L = [] := List.length_eq_zero_iff.1 h3
  subst this
  exact ⟨rfl, fun h' => ⟨[], .inl ⟨rfl, rfl, rfl⟩, fun i r h => by simp at h⟩⟩
 ·have : L = [] := List.length_eq_zero_iff.1 h5
  subst this
  exact ⟨rfl, fun h' => ⟨vs, .inr ⟨h4, .inl ⟨rfl, rfl⟩⟩, fun i r h => by simp at h⟩⟩
 ·simp [Ai.scalar, flat1, flat] at hs
theorem vis_flat (G : Dg) (e : Nat × Nat) : ∀ j, e ∈ (vis G j).1 ↔ ∃ (i : Nat) (r : List (Nat × Nat)), (vis G j).2[i]? = some r ∧ e ∈ r := by
 have hfl : ∀ j, (vis G j).1 = (vis G j).2.flatten := by
  intro j
  induction j with
  | zero => rfl
  | succ j ih =>
   simp only [vis]
   by_cases hx : endOf j ∈ (vis G j).1
   ·rw [if_pos hx]; exact ih
   ·rw [if_neg hx]; simp [ih]
 intro j
 rw [hfl, List.mem_flatten]
 constructor
 ·rintro ⟨r, hr, he⟩
  obtain ⟨i, hi, rfl⟩ := List.getElem_of_mem hr
  exact ⟨i, _, List.getElem?_eq_getElem hi, he⟩
 ·rintro ⟨i, r, hr, he⟩
  exact ⟨r, List.mem_of_getElem? hr, he⟩
theorem vis_ne {G : Dg} (hG : GoodG G) {j i : Nat} (hj : j ≤ 4 * G.n) {r : List (Nat × Nat)} (h : (vis G j).2[i]? = some r) : r ≠ [] ∧ r.length ≤ 4 * G.n := by
 obtain ⟨e, he, rfl⟩ := vis_reg hG j hj r (List.mem_of_getElem? h)
 have := per_spec hG he
 have hl : (orbL G e).length = per G e := orbN_length _ _ _
 refine ⟨fun h0 => ?_, by rw [hl]; exact this.1.2.2⟩
 rw [h0] at hl
 simp at hl
 omega
end Go.Proofs.Ytjlkndkedknocaa
namespace Go.Proofs.Ytjlkndkedknocaa
open Go Go.Ai
attribute [local instance] Classical.propDecidable
variable {E : Env} (hE : OE E)
include hE
theorem regionsR_ {h0 : List O} {a : Option Addr} {n c : Nat} {x : Nat → Nat → Int} {s : Nat → Int} {L : Int} (hx : CrossP h0 a n x s) (hS : Snd n x s L) :
  DC E 175 [dV a n c L] ⟨h0, h0.length⟩ fun o st' => ∃ v, o = .ret v ∧ h0.length ≤ st'.fl ∧ Sub h0 st'.h ∧ RegsQ st'.h h0.length v (regs (dgOf n x s L)) := by
 refine hE.fnC (body := rb175) rfl ?_
 unfold rb175
 have hG := good_of hS
 have hreg := fun {y : Nat × Nat} (hy : InV (dgOf n x s L) y) h k => region_ hE (h0 := h) (a := a) (x := x) (c := c) k hS hy
 simp only [dV, endV] at hreg
 obtain ⟨G, hGe⟩ : ∃ G, G = dgOf n x s L := ⟨_, rfl⟩
 rw [← hGe] at hG ⊢
 simp only [← hGe] at hreg
 have hGn : G.n = n := by rw [hGe]; rfl
 have hsz := hG.size
 rw [hGn] at hsz
 obtain ⟨hB, hhB⟩ : ∃ H, H = h0 ++ [O.cells [.slice a n c, .int .i64 L] 24 (some 0)] := ⟨_, rfl⟩
 have lB : hB.length = h0.length + 1 := by rw [hhB]; simp
 have sB : Sub h0 hB := by rw [hhB]; exact (Sub.refl _).app _
 have bB : hB[h0.length]? = some (O.cells [.slice a n c, .int .i64 L] 24 (some 0)) := by rw [hhB, app_at0]; rfl
 simp [dV]
 rw [← hhB]
 refine DW_loop (fun kk fr st => ∃ (i : Nat) (h : List O) (v : Value), i + kk = n ∧ st = ⟨h, h0.length⟩ ∧ Sub hB h ∧ RegsQ h hB.length v (vis G (4 * i)).2 ∧ get fr 1 = .pointer (some ⟨h0.length, 0, none⟩) ∧ get fr 3 = v ∧ get fr 4 = .int .i64 i) ?_ (k := n) ?_
 ·rintro kk fr st ⟨i, h, v, hik, rfl, hsub, hR, g1, g3, g4⟩
  have hb2 : h[h0.length]? = some (O.cells [.slice a n c, .int .i64 L] 24 (some 0)) := hsub _ _ bB
  by_cases hi : i < n
  ·simp [g1, g3, g4, rd_def, hb2, hi]
   refine DW_loop (fun kk' fr st => ∃ (q : Nat) (h : List O) (v : Value), q + kk' = 4 ∧ st = ⟨h, h0.length⟩ ∧ Sub hB h ∧ RegsQ h hB.length v (vis G (4 * i + q)).2 ∧ get fr 1 = .pointer (some ⟨h0.length, 0, none⟩) ∧ get fr 3 = v ∧ get fr 4 = .int .i64 i ∧ get fr 5 = .int .i64 q) ?_ (k := 4) ?_
   ·clear hR g1 g3 g4 hb2 hsub
    clear v h
    rintro kk' fr st ⟨q, h, v, hqk, rfl, hsub, hR, g1, g3, g4, g5⟩
    by_cases hq : q < 4
    ·have hq' : (q : Int) < 4 := by omega
     have hvl := vis_len G (4 * i + q)
     obtain ⟨va, rfl, hat⟩ := hR.at_
     have hend : endOf (4 * i + q) = (i, q) := by unfold endOf; rw [Prod.mk.injEq]; omega
     have hinV : InV G (i, q) := hG.inV (by rw [hGn]; exact hi) hq
     obtain ⟨h1, hh1⟩ : ∃ H, H = h ++ [O.cells [.int .i64 i, .int .i64 q] 72 (some 0)] := ⟨_, rfl⟩
     have s1' : Sub h h1 := by rw [hh1]; exact (Sub.refl _).app _
     have b1 : h1[h.length]? = some (O.cells [.int .i64 i, .int .i64 q] 72 (some 0)) := by rw [hh1, app_at0]; rfl
     have hsl := hsub.len
     have hmin : min h0.length h.length = h0.length := by omega
     simp [g1, g3, g4, g5, hq', wrN_at0, set_at0, hmin]
     rw [← hh1]
     obtain ⟨N, hN⟩ : ∃ N, N = (vis G (4 * i + q)).2.length := ⟨_, rfl⟩
     rw [← hN] at g3 hvl
     refine DW_loop (fun kk'' fr st => ∃ (m : Nat), m + kk'' = N ∧ st = ⟨h1, h0.length⟩ ∧ get fr 1 = .pointer (some ⟨h0.length, 0, none⟩) ∧ get fr 3 = .slice va N N ∧ get fr 4 = .int .i64 i ∧ get fr 5 = .int .i64 q ∧ get fr 6 = .pointer (some ⟨h.length, 0, none⟩) ∧ get fr 7 = .bool (decide (∃ m', m' < m ∧ ∃ r, (vis G (4 * i + q)).2[m']? = some r ∧ (i, q) ∈ r)) ∧ get fr 8 = .int .i64 m) ?_ (k := N) ?_
     ·clear g1 g3 g4 g5
      rintro kk'' fr st ⟨m, hmk, rfl, g1, g3, g4, g5, g6, g7, g8⟩
      have hNlt : N ≤ 800 := by omega
      have hw : IntKind.i64.wrap ((m : Int) + 1) = (m : Int) + 1 := by rw [w64_id] <;> omega
      by_cases hm : m < N
      ·obtain ⟨r, hr⟩ : ∃ r, (vis G (4 * i + q)).2[m]? = some r := ⟨_, List.getElem?_eq_getElem (by omega)⟩
       obtain ⟨hne, hrl⟩ := vis_ne hG (j := 4 * i + q) (by omega) hr
       have hstep : (decide (∃ m', m' < m + 1 ∧ ∃ r, (vis G (4 * i + q)).2[m']? = some r ∧ (i, q) ∈ r)) = (decide (∃ m', m' < m ∧ ∃ r, (vis G (4 * i + q)).2[m']? = some r ∧ (i, q) ∈ r) || decide ((i, q) ∈ r)) := by
        rw [Bool.eq_iff_iff, Bool.or_eq_true, decide_eq_true_iff, decide_eq_true_iff, decide_eq_true_iff]
        constructor
        ·rintro ⟨m', h1, r', h2, h3⟩
         by_cases e : m' = m
         ·subst e
          rw [hr] at h2
          obtain rfl := Option.some.inj h2
          exact .inr h3
         ·exact .inl ⟨m', by omega, r', h2, h3⟩
        ·rintro (⟨m', h1, h2⟩ | h)
         ·exact ⟨m', by omega, h2⟩
         ·exact ⟨m, by omega, r, hr, h⟩
       by_cases hk : ∃ m', m' < m ∧ ∃ r, (vis G (4 * i + q)).2[m']? = some r ∧ (i, q) ∈ r
       ·rw [decide_eq_true hk] at g7 hstep
        rw [Bool.true_or] at hstep
        simp [g1, g3, g4, g5, g6, g7, g8, hm, hw]
        refine ⟨kk'' - 1, by omega, m + 1, by omega, ?_, by omega⟩
        exact of_decide_eq_true hstep
       ·rw [decide_eq_false hk] at g7 hstep
        rw [Bool.false_or] at hstep
        obtain ⟨b, b', s1, s2, vs, rfl, q1, q2, q3, q4, q5⟩ := hat m r hr hne
        have q3' := s1' _ _ q3
        have q5' := s1' _ _ q5
        have hh := fun h k => has_ hE (h := h) (b := b') (n := r.length) (c := r.length) (l := r) (el := 72) (own := some s2) (fun _ => k) rfl (by omega) (i, q)
        simp only [endV] at hh
        simp [g1, g3, g4, g5, g6, g7, g8, hm, hw, rd_def, rdN_def, q3', q4, b1, DC_when hh, q5', joined_fl]
        refine ⟨kk'' - 1, by omega, m + 1, by omega, ?_, by omega⟩
        exact (decide_eq_decide.1 hstep).symm
      ·have hin : m = N := by omega
       subst hin
       have hkn : (∃ m', m' < m ∧ ∃ r, (vis G (4 * i + q)).2[m']? = some r ∧ (i, q) ∈ r) ↔ (i, q) ∈ (vis G (4 * i + q)).1 := by
        rw [vis_flat]
        constructor
        ·rintro ⟨m', _, h⟩; exact ⟨m', h⟩
        ·rintro ⟨m', r, h1, h2⟩
         exact ⟨m', by rw [hN]; exact (List.getElem?_eq_some_iff.1 h1).1, r, h1, h2⟩
       have hwq : IntKind.i64.wrap ((q : Int) + 1) = (q : Int) + 1 := by rw [w64_id] <;> omega
       by_cases hk : (i, q) ∈ (vis G (4 * i + q)).1
       ·rw [decide_eq_true (hkn.2 hk)] at g7
        have hv : vis G (4 * i + (q + 1)) = vis G (4 * i + q) := by
         rw [← Nat.add_assoc]; simp only [vis]; rw [hend, if_pos hk]
        simp [g1, g3, g4, g5, g6, g7, g8, hwq]
        refine ⟨kk' - 1, by omega, q + 1, by omega, hsub.trans s1', _, ?_, rfl, by omega⟩
        rw [hv]; rw [← hN] at hR; exact hR.keep s1'
       ·rw [decide_eq_false (fun h => hk (hkn.1 h))] at g7
        have hv : vis G (4 * i + (q + 1)) = ((vis G (4 * i + q)).1 ++ orbL G (i, q), (vis G (4 * i + q)).2 ++ [orbL G (i, q)]) := by
         rw [← Nat.add_assoc]; simp only [vis]; rw [hend, if_neg hk]
        have hrg := hreg hinV h1 (hx.sub (sB.trans (hsub.trans s1')))
        have hb1 : h1[h0.length]? = some (O.cells [.slice a n c, .int .i64 L] 24 (some 0)) := s1' _ _ (hsub _ _ bB)
        simp [g1, g3, g4, g5, g6, g7, g8, hwq, rdN_def, hb1, b1]
        refine hrg.imp ?_
        rintro o ⟨h2, f2⟩ ⟨v, rfl, hf2, hs2, hO⟩
        simp only at hf2 hs2 hO
        have hPer := (per_spec hG hinV).1
        obtain ⟨br, sr, rfl, hbr, hbc⟩ : ∃ br sr, v = .slice (some ⟨br, 0, none⟩) (per G (i, q)) (per G (i, q)) ∧ h1.length ≤ br ∧ h2[br]? = some (.cells (cellsL (orbL G (i, q))) 72 (some sr)) := by
         rcases hO.2 with ⟨_, hz⟩ | ⟨b, s, e1, e2, e3, _⟩
         ·omega
         ·exact ⟨b, s, e1, e2, e3⟩
        obtain ⟨h3, hh3⟩ : ∃ H, H = h2 ++ [O.cells [.slice (some ⟨br, 0, none⟩) (per G (i, q)) (per G (i, q))] 215 (some 0)] := ⟨_, rfl⟩
        have s3 : Sub h2 h3 := by rw [hh3]; exact (Sub.refl _).app _
        have hR3 := ((hR.keep s1').keep hs2).keep s3
        have hl1 := s1'.len
        have hl2 := hs2.len
        have hl3 := s3.len
        have hO3 : OwnS h3 hB.length (.slice (some ⟨br, 0, none⟩) (per G (i, q)) (per G (i, q))) (orbL G (i, q)).length (cellsL (orbL G (i, q))) 72 2 := by
         rw [show (orbL G (i, q)).length = per G (i, q) from orbN_length _ _ _]
         exact OwnS.low (hO.keep fun b s _ e => s3 _ _ e) (by omega)
        have hrd : readSlice h3 1 1 (some ⟨h2.length, 0, none⟩) = some [.slice (some ⟨br, 0, none⟩) (per G (i, q)) (per G (i, q))] := slice_read (by rw [hh3, app_at0]; rfl) rfl
        obtain ⟨b', h4, f4, happ, hR4, hf4, hf4', hl4, hk4⟩ := hR3.push (fl := h0.length) (c := 1) hO3 hrd rfl (by omega) (by simp only [roomMax]; omega)
        have hf : f4 = h0.length := by omega
        rw [← hN] at happ hR4
        have hlen0 : h0.length < hB.length := by omega
        simp [joined_fl, hf2, ← hh3, happ, hf, g1, g4, g5, hwq]
        refine ⟨kk' - 1, by omega, q + 1, by omega, fun b o hb => hk4 b o (s3 _ _ (hs2 _ _ (s1' _ _ (hsub _ _ hb)))) (.inl (List.getElem?_eq_some_iff.1 hb).1), _, ?_, rfl, by omega⟩
        rw [hv]
        exact hR4
     ·refine ⟨0, by omega, rfl, ?_⟩
      simp [g1, g3, g4, g5]
    ·have hq4 : q = 4 := by omega
     subst hq4
     have hw : IntKind.i64.wrap ((i : Int) + 1) = (i : Int) + 1 := by rw [w64_id] <;> omega
     simp [g1, g3, g4, g5, hw]
     exact ⟨kk - 1, by omega, i + 1, by omega, hsub, _, by rw [Nat.mul_add]; exact hR, rfl, by omega⟩
   ·exact ⟨0, h, v, by omega, rfl, hsub, hR, by simp [g1, g3, g4]⟩
  ·have hin : i = n := by omega
   subst hin
   simp [g1, g3, g4, rd_def, hb2, endK_ret]
   unfold pairQ back
   have hR0 : RegsQ h h0.length v (regs G) := by
    have := hR.low (lo' := h0.length) (by omega)
    unfold regs
    rw [hGn]; exact this
   split
   ·rename_i hc
    rw [Bool.and_eq_true] at hc
    exact ⟨v, rfl, Nat.le_refl _, Sub.refl _, (hR0.scalar hc.1).2 _⟩
   ·exact ⟨v, rfl, Nat.le_refl _, sB.trans hsub, hR0⟩
 ·exact ⟨0, hB, emptyS, by omega, rfl, Sub.refl _, ⟨[], .inl ⟨rfl, rfl, rfl⟩, fun i r h => by simp [vis] at h⟩, by simp⟩
end Go.Proofs.Ytjlkndkedknocaa
