/- Texts that were built one by one: Wb1, Wb2, Wb3, Wb4, Wb5, Wo3, Wo4, Wo5, Wo6, Wl1, Wl2, Wq2, Wq3, Wq4, Wr1, Wr2, Wq5. -/
import Derived.Test.YtjlkndkedknocaaMf
import Derived.Test.YtjlkndkedknocaaMd
import Derived.Test.YtjlkndkedknocaaMg
set_option linter.unusedSimpArgs false
set_option linter.unusedVariables false
namespace Go.Ai
theorem pw_eq {α : Type} {f : α → Nat} : ∀ {l : List α}, l.Pairwise (fun x y => f x ≠ f y) → ∀ {x y : α}, x ∈ l → y ∈ l → f x = f y → x = y
 | [], _, x, _, h, _, _ => by simp at h
 | z :: l, hp, x, y, hx, hy, e => by
  rw [List.pairwise_cons] at hp
  rcases List.mem_cons.1 hx with hx | hx
  ·rcases List.mem_cons.1 hy with hy | hy
   ·rw [hx, hy]
   ·rw [hx] at e; exact absurd e (hp.1 y hy)
  ·rcases List.mem_cons.1 hy with hy | hy
   ·rw [hy] at e; exact absurd e.symm (hp.1 x hx)
   ·exact pw_eq hp.2 hx hy e
theorem nodup_le : ∀ {s l : List Nat}, s.Nodup → (∀ b ∈ s, b ∈ l) → s.length ≤ l.length
 | [], l, _, _ => by simp
 | x :: s, l, h1, h2 => by
  rw [List.nodup_cons] at h1
  have hx := h2 x (by simp)
  have h3 := nodup_le (s := s) (l := l.erase x) h1.2 fun b hb => (List.mem_erase_of_ne (fun e => by rw [e] at hb; exact h1.1 hb)).2 (h2 b (by simp [hb]))
  rw [List.length_erase_of_mem hx] at h3
  have := List.length_pos_of_mem hx
  simp; omega
end Go.Ai
namespace Go.Proofs.Ytjlkndkedknocaa
open Go Go.Ai
attribute [local instance] Classical.propDecidable
theorem lE_born {X : Nat → Nat → Nat} {s : Nat → Int} : ∀ {c : Nat}, ∀ y ∈ lE X s c, y.2.2 < 2 * c := by
 intro c
 induction c with
 | zero => intro y h; simp [lE] at h
 | succ c ih =>
  intro y h
  simp only [lE, List.mem_append, List.mem_singleton] at h
  rcases h with (h | rfl) | rfl
  ·have := ih y h; omega
  ·simp only; omega
  ·simp only; omega
theorem lE_pw (X : Nat → Nat → Nat) (s : Nat → Int) : ∀ c, (lE X s c).Pairwise fun x y => x.2.2 ≠ y.2.2 := by
 intro c
 induction c with
 | zero => exact List.Pairwise.nil
 | succ c ih =>
  simp only [lE]
  rw [List.pairwise_append, List.pairwise_append]
  refine ⟨⟨ih, List.pairwise_singleton _ _, fun x hx y hy => ?_⟩, List.pairwise_singleton _ _, fun x hx y hy => ?_⟩
  ·simp at hy
   rw [hy]
   have := lE_born x hx
   simp only; omega
  ·simp at hy
   rw [hy]
   rcases List.mem_append.1 hx with hx | hx
   ·have := lE_born x hx
    simp only; omega
   ·simp at hx
    rw [hx]; simp
theorem lE_length (X : Nat → Nat → Nat) (s : Nat → Int) : ∀ c, (lE X s c).length = 2 * c := by
 intro c
 induction c with
 | zero => rfl
 | succ c ih => simp [lE, ih]; omega
theorem lE_is {X : Nat → Nat → Nat} {s : Nat → Int} : ∀ {n : Nat}, ∀ y ∈ lE X s n, ∃ c p, c < n ∧ (p = 0 ∨ p = inP (s c)) ∧ y.1 = (c, p) ∧ y.2.1 = .int .i64 (X c p) := by
 intro n
 induction n with
 | zero => intro y h; simp [lE] at h
 | succ n ih =>
  intro y h
  simp only [lE, List.mem_append, List.mem_singleton] at h
  rcases h with (h | rfl) | rfl
  ·obtain ⟨c, p, h1, h2⟩ := ih y h
   exact ⟨c, p, by omega, h2⟩
  ·exact ⟨n, 0, by omega, .inl rfl, rfl, rfl⟩
  ·exact ⟨n, _, by omega, .inr rfl, rfl, rfl⟩
theorem lE_has {X : Nat → Nat → Nat} {s : Nat → Int} : ∀ {n c p : Nat}, c < n → (p = 0 ∨ p = inP (s c)) → ∃ b, ((c, p), Value.int .i64 (X c p), b) ∈ lE X s n := by
 intro n
 induction n with
 | zero => intro c p h; omega
 | succ n ih =>
  intro c p hc hp
  simp only [lE, List.mem_append, List.mem_singleton]
  by_cases e : c < n
  ·obtain ⟨b, hb⟩ := ih e hp
   exact ⟨b, .inl (.inl hb)⟩
  ·obtain rfl : c = n := by omega
   rcases hp with rfl | rfl
   ·exact ⟨_, .inl (.inr rfl)⟩
   ·exact ⟨_, .inr rfl⟩
def finT (G : Dg) (a : Nat) : Nat × Nat := (G.T a 2, G.T a 3)
def finL (G : Dg) : List (Nat × Nat) := (List.range (2 * G.n)).map (finT G)
theorem in_place {s : Int} (hs : s = 1 ∨ s = -1) {p : Nat} : ((p = 0 ∨ p = inP s) ↔ p < 4 ∧ outB s p = false) := by
 rcases hs with rfl | rfl
 ·constructor
  ·rintro (rfl | rfl)
   ·exact ⟨by omega, rfl⟩
   ·exact ⟨by decide, rfl⟩
  ·rintro ⟨h1, h2⟩
   match p, h1 with
   | 0, _ => exact .inl rfl
   | 1, _ => simp [outB] at h2
   | 2, _ => simp [outB] at h2
   | 3, _ => exact .inr rfl
 ·constructor
  ·rintro (rfl | rfl)
   ·exact ⟨by omega, rfl⟩
   ·exact ⟨by decide, rfl⟩
  ·rintro ⟨h1, h2⟩
   match p, h1 with
   | 0, _ => exact .inl rfl
   | 1, _ => exact .inr rfl
   | 2, _ => simp [outB] at h2
   | 3, _ => simp [outB] at h2
theorem fin_of {G : Dg} (hG : GoodG G) {c p : Nat} (hc : c < G.n) (hp : p < 4) (ho : outB (G.s c) p = false) : finT G (G.X c p) = (c, p) := by
 have ha := hG.X c p hc hp
 rcases hG.cover c p hc hp with ⟨h1, h2⟩ | ⟨h1, h2⟩
 ·have := (hG.dir _ ha).1
  rw [← h1, ← h2, ho] at this
  cases this
 ·unfold finT; rw [← h1, ← h2]
theorem cellsL_len (l : List (Nat × Nat)) : (cellsL l).length = l.length * 2 := by
 induction l with
 | nil => rfl
 | cons y l ih => show (cells2 y ++ cellsL l).length = _; rw [List.length_append, ih]; simp [cells2]; omega
theorem cellsL_set {e : List (Nat × Nat)} {a : Nat} {x : Nat × Nat} (ha : a < e.length) : setL (cellsL e) (a * 2) (cells2 x) = cellsL (e.set a x) := by
 induction e generalizing a with
 | nil => simp at ha
 | cons y l ih =>
  cases a with
  | zero => simp [cellsL, cells2]
  | succ a =>
   have h := ih (a := a) (by simpa using ha)
   have e1 : cellsL (y :: l) = cells2 y ++ cellsL l := rfl
   have e2 : cellsL ((y :: l).set (a + 1) x) = cells2 y ++ cellsL (l.set a x) := rfl
   rw [e1, e2, ← h]
   simp [cells2, show (a + 1) * 2 = a * 2 + 2 by omega]
def walkM (h0 : List O) (pl : Nat) (i : Int) (G : Dg) : List O :=
 (h0 ++ [.cells [.pointer (some ⟨pl, 0, none⟩)] 155 (some 0), .cells [.int .i64 i] 3 (some 0), .cells (cellsL (finL G)) 72 (some 0), .cells [.slice (some ⟨h0.length + 2, 0, none⟩) (2 * G.n) (2 * G.n)] 215 (some 0)]) ++ List.replicate (1 + 2 * G.n) .dead
def walkV (h0 : List O) : Value := .func (.func 212) #[] #[.pointer (some ⟨h0.length + 1, 0, none⟩), .pointer (some ⟨h0.length + 3, 0, none⟩), .pointer (some ⟨h0.length, 0, none⟩)]
structure WkI (h0 : List O) (pl : Nat) (i : Int) (N mb : Nat) (es : List MapEntry) (fin : Nat → Nat × Nat) (seen : List Nat) (H : List O) (e : List (Nat × Nat)) : Prop where
 sub : Sub h0 H
 b0 : AtB H h0.length (.cells [.pointer (some ⟨pl, 0, none⟩)] 155 (some 0))
 b1 : AtB H (h0.length + 1) (.cells [.int .i64 i] 3 (some 0))
 b2 : AtB H (h0.length + 2) (.cells (cellsL e) 72 (some 0))
 b3 : AtB H (h0.length + 3) (.cells [.slice (some ⟨h0.length + 2, 0, none⟩) N N] 215 (some 0))
 b4 : AtB H (h0.length + 4) (.iter (some mb) N seen N)
 len : H.length = h0.length + 5 + seen.length
 own : ∀ b o, h0.length + 5 ≤ b → H[b]? = some o → o.ro = false
 el : e.length = N
 met : ∀ y ∈ es, y.born ∈ seen → ∀ a : Nat, y.val = .int .i64 a → e[a]? = some (fin a)
 nd : seen.Nodup
 mem : ∀ b ∈ seen, ∃ y ∈ es, y.born = b
variable {E : Env} (hE : OE E)
include hE
theorem walk_ (hW : E.S 148 = none) {h0 : List O} {pl n : Nat} {x : Nat → Nat → Int} {s : Nat → Int} {L : Int} (hl : LnkP h0 pl n x s L) (hS : Snd n x s L) (i : Int) :
  PC E 148 [.pointer (some ⟨pl, 0, none⟩), .int .i64 i] ⟨h0, h0.length⟩ fun o s' => o = .ret (walkV h0) ∧ WeakK 4 ⟨h0, h0.length⟩ s' ⟨walkM h0 pl i (dgOf n x s L), h0.length⟩ := by
 refine PC_fn (hE.F _ _ rfl) hW ?_
 obtain ⟨G, hGe⟩ : ∃ G, G = dgOf n x s L := ⟨_, rfl⟩
 have hG : GoodG G := by rw [hGe]; exact good_of hS
 have hGn : G.n = n := by rw [hGe]; rfl
 have hGs : G.s = s := by rw [hGe]; rfl
 have hsz := hS.size
 obtain ⟨uv, xa, xc, ab, cb, mb, k1, k2, k3, k4, k5, hO, hk'⟩ := hl
 rw [← hGe] at k1 k3 k5 ⊢
 unfold linkC at k1
 obtain ⟨N, hN⟩ : ∃ N, N = 2 * n := ⟨_, rfl⟩
 rw [← hN] at k1 k5
 have hpl := (List.getElem?_eq_some_iff.1 k1).1
 have hk1 : ∀ l, (h0 ++ l)[pl]? = _ := fun l => app_of k1 l
 have e1 : (N : Int) * 16 ≤ 140737488355328 := by omega
 have e2 : (N : Int) < 4611686018427387904 := by omega
 unfold rb148
 refine PW_seqD ?_
 simp
 refine PW_seqD ?_
 simp [rd_at0, rd_at, rd_def, hk1, e1, e2, wrN_at, set_at, List.append_assoc]
 refine PW_seq (PW_seqD ?_)
 obtain ⟨H, hH⟩ : ∃ H, H = h0 ++ [O.cells [.pointer (some ⟨pl, 0, none⟩)] 155 (some 0), .cells [.int .i64 i] 3 (some 0), .cells (rep N [.int .i64 0, .int .i64 0]) 72 (some 0), .cells [.slice (some ⟨h0.length + 2, 0, none⟩) N N] 215 (some 0)] := ⟨_, rfl⟩
 have hlH : H.length = h0.length + 4 := by rw [hH]; simp
 rw [← hH]
 have hb0 : H[h0.length]? = some (.cells [.pointer (some ⟨pl, 0, none⟩)] 155 (some 0)) := by rw [hH, app_at0]; rfl
 have hm0 : H[mb]? = some (.map ((lE G.X s n).map (entG kcII)) N) := by rw [hH]; exact app_of k5 _
 have hp0 : H[pl]? = h0[pl]? := by rw [hH]; exact List.getElem?_append_left hpl
 rw [k1] at hp0
 have eI := rangeVS_ent (f := h0.length) hm0
 simp [rd_def, hb0, hp0, eI]
 have hGN : 2 * G.n = N := by rw [hGn, hN]
 have hpw : ((lE G.X s n).map (entG kcII)).Pairwise fun x y => x.born ≠ y.born := by
  rw [List.pairwise_map]; exact lE_pw _ _ _
 have hallk : ((lE G.X s n).map (entG kcII)).all (fun e => plain1 e.key) = true := by
  rw [List.all_map, List.all_eq_true]; intro y _; rfl
 have hmbl := (List.getElem?_eq_some_iff.1 k5).1
 refine PW_walkE (es := (lE G.X s n).map (entG kcII)) (bm := mb) (r := h0.length + 4) (clock := N) (seen := []) hpw hallk (fun seen fr H => (∃ e, WkI h0 pl i N mb ((lE G.X s n).map (entG kcII)) (finT G) seen H e) ∧ get fr 2 = .pointer (some ⟨h0.length, 0, none⟩) ∧ get fr 3 = .pointer (some ⟨h0.length + 1, 0, none⟩) ∧ get fr 5 = .pointer (some ⟨h0.length + 3, 0, none⟩) ∧ get fr 18 = .pointer (some ⟨h0.length + 4, 0, none⟩)) (by decide) (by omega) ?_ ?_ ?_ ?_
 ·rintro seen fr H ⟨⟨e, hI⟩, g2, g3, g5, g18⟩
  exact ⟨g18, hI.b4, hI.sub _ _ k5⟩
 ·rintro seen fr H y ⟨⟨e, hI⟩, g2, g3, g5, g18⟩ hy hys
  obtain ⟨z, hz, rfl⟩ := List.mem_map.1 hy
  obtain ⟨c, p, hc, hp, hz1, hz2⟩ := lE_is z hz
  have hq := (in_place (hS.sign c hc)).1 hp
  have hX := hG.X c p (by rw [hGn]; exact hc) hq.1
  have hfin := fin_of hG (by rw [hGn]; exact hc) hq.1 (by rw [hGs]; exact hq.2)
  have hXN : G.X c p < N := by rw [← hGN]; exact hX
  have b2 := hI.b2
  have b3 := hI.b3
  have b4 := hI.b4
  unfold AtB at b2 b3 b4
  have hHl := hI.len
  obtain ⟨H2, hH2⟩ : ∃ H2, H2 = H.set (h0.length + 4) (.iter (some mb) N (seen ++ [z.2.2]) N) := ⟨_, rfl⟩
  have hl2 : H2.length = H.length := by rw [hH2]; exact List.length_set
  have c2 : H2[h0.length + 2]? = some (.cells (cellsL e) 72 (some 0)) := by rw [hH2]; exact set_ne b2 (by omega)
  have c3 : H2[h0.length + 3]? = some (.cells [.slice (some ⟨h0.length + 2, 0, none⟩) N N] 215 (some 0)) := by rw [hH2]; exact set_ne b3 (by omega)
  have c4 : H2[h0.length + 4]? = some (.iter (some mb) N (seen ++ [z.2.2]) N) := by rw [hH2]; exact set_self b4
  have cm : H2[mb]? = some (.map ((lE G.X s n).map (entG kcII)) N) := by rw [hH2]; exact set_ne (hI.sub _ _ k5) (by omega)
  have eE := entryVS_E (f := h0.length) (x := entG kcII z) c4 cm (by simp [entG]) hpw hallk (List.mem_map.2 ⟨z, hz, rfl⟩)
  have ek : (entG kcII z).key = .agg #[.int .i64 c, .int .i64 p] := by unfold entG; rw [hz1]; rfl
  have ev : (entG kcII z).val = .int .i64 (G.X c p) := by unfold entG; rw [hz2]
  have eb : (entG kcII z).born = z.2.2 := rfl
  rw [ek, ev] at eE
  rw [ek, ev, eb, ← hH2]
  have cll := cellsL_len e
  have hel := hI.el
  have hroom : G.X c p * 2 + 2 ≤ (cellsL e).length := by omega
  have hse := cellsL_set (e := e) (a := G.X c p) (x := (c, p)) (by omega)
  simp only [cells2, setL_cons, setL_nil] at hse
  have hmin : min h0.length H2.length = h0.length := by omega
  have hmin2 : min h0.length (h0.length + 2) = h0.length := by omega
  have c2' : ∀ l, (H2 ++ l)[h0.length + 2]? = _ := fun l => app_of c2 l
  have c3' : ∀ l, (H2 ++ l)[h0.length + 3]? = _ := fun l => app_of c3 l
  simp [g2, g3, g5, g18, eE, wrN_at0, set_at0, rd_def, c3', rdN_at0, hXN, wrN_def, c2', hroom, hse, hmin, hmin2, app_at0]
  have hbz : z.2.2 ∉ seen := hys
  refine ⟨e.set (G.X c p) (c, p), ((by rw [hH2]; exact hI.sub.set (by omega) _ : Sub h0 H2).app _).set (by omega) _, set_ne (app_of ?_ _) (by omega), set_ne (app_of ?_ _) (by omega), set_self (c2' _), set_ne (c3' _) (by omega), set_ne (app_of c4 _) (by omega), by simp [hl2, hHl]; omega, fun b o hb ho => ?_, by simp [hel], fun y hy' hys' a hya => ?_, ?_, fun b hb => ?_⟩
  ·rw [hH2]; exact set_ne hI.b0 (by omega)
  ·rw [hH2]; exact set_ne hI.b1 (by omega)
  ·rw [List.getElem?_set_ne (by omega)] at ho
   by_cases hbl : b < H2.length
   ·rw [List.getElem?_append_left hbl, hH2, List.getElem?_set_ne (by omega)] at ho
    exact hI.own b o hb ho
   ·rw [List.getElem?_append_right (by omega)] at ho
    have h1 := (List.getElem?_eq_some_iff.1 ho).1
    simp at h1
    rw [show b - H2.length = 0 by omega] at ho
    simp at ho
    rw [← ho]; rfl
  ·obtain ⟨y0, hy0, rfl⟩ := List.mem_map.1 hy'
   have hyb : (entG kcII y0).born = y0.2.2 := rfl
   have hyv : (entG kcII y0).val = y0.2.1 := rfl
   obtain ⟨c', p', hc', hp', hy1, hy2⟩ := lE_is y0 hy0
   rw [hyv, hy2] at hya
   have hqa := (in_place (hS.sign c' hc')).1 hp'
   have hXa := hG.X c' p' (by rw [hGn]; exact hc') hqa.1
   simp only [Value.int.injEq, true_and] at hya
   have haX : a = G.X c' p' := by omega
   by_cases ea : a = G.X c p
   ·rw [ea, List.getElem?_set_self (by omega), hfin]
   ·rw [List.getElem?_set_ne (Ne.symm ea)]
    rcases List.mem_append.1 hys' with h1 | h1
    ·exact hI.met _ hy' h1 a (by rw [hyv, hy2, haX])
    ·simp at h1
     rw [hyb] at h1
     have := pw_eq (f := fun w : (Nat × Nat) × Value × Nat => w.2.2) (lE_pw G.X s n) hy0 hz h1
     subst this
     rw [hz2] at hy2
     simp only [Value.int.injEq, true_and] at hy2
     omega
  ·rw [List.nodup_append]
   refine ⟨hI.nd, by simp, fun a ha b hb => ?_⟩
   simp at hb
   rw [hb]; intro e'; rw [e'] at ha; exact hbz ha
  ·rcases List.mem_append.1 hb with h1 | h1
   ·exact hI.mem b h1
   ·simp at h1
    exact ⟨_, hy, h1.symm⟩
 ·rintro seen fr H' ⟨⟨e, hI⟩, g2, g3, g5, g18⟩ hall
  refine PW_of_DW ?_
  simp [g2, g3, g5, endK_ret]
  unfold pairQ back
  rw [if_neg (by simp [Out.scalar, scalar, flat1, flat])]
  have hbn : ((lE G.X s n).map fun w => w.2.2).Nodup := by
   have := lE_pw G.X s n
   exact List.pairwise_map.2 this
  have hlen : seen.length = N := by
   have a1 := nodup_le hI.nd (l := (lE G.X s n).map fun w => w.2.2) fun b hb => by
    obtain ⟨y, hy, rfl⟩ := hI.mem b hb
    obtain ⟨z, hz, rfl⟩ := List.mem_map.1 hy
    exact List.mem_map.2 ⟨z, hz, rfl⟩
   have a2 := nodup_le hbn (l := seen) fun b hb => by
    obtain ⟨z, hz, rfl⟩ := List.mem_map.1 hb
    exact hall _ (List.mem_map.2 ⟨z, hz, rfl⟩)
   rw [List.length_map, lE_length] at a1 a2
   omega
  have hfl : e = finL G := by
   apply List.ext_getElem?
   intro a
   by_cases ha : a < N
   ·obtain ⟨c, p, hcp⟩ : ∃ c p, (c, p) = finT G a := ⟨_, _, rfl⟩
    obtain ⟨t0, t1, t2, t3, x1, x2, _⟩ := hG.T a (by omega)
    have hd := (hG.dir a (by omega)).2
    have hc : G.T a 2 < n := by rw [← hGn]; exact t2
    obtain ⟨b, hb⟩ := lE_has (X := G.X) (s := s) hc ((in_place (hS.sign _ hc)).2 ⟨t3, by rw [← hGs]; exact hd⟩)
    have hm := hI.met (entG kcII _) (List.mem_map.2 ⟨_, hb, rfl⟩) (hall _ (List.mem_map.2 ⟨_, hb, rfl⟩)) a (by show Value.int .i64 (G.X (G.T a 2) (G.T a 3)) = _; rw [x2])
    rw [hm]
    simp [finL, hGN, ha]
   ·rw [List.getElem?_eq_none (by have := hI.el; omega), List.getElem?_eq_none (by simp [finL, hGN]; omega)]
  have hHl := hI.len
  refine ⟨rfl, rfl, by simp [walkM, hHl, hGN, hlen]; omega, fun b hb => ?_, fun b hb hb2 => ?_⟩
  ·simp only at hb ⊢
   unfold walkM
   rw [List.getElem?_append_left (by simp; omega)]
   rw [List.getElem?_set_ne (by omega)]
   by_cases h1 : b < h0.length
   ·rw [List.getElem?_append_left h1, hI.sub b h0[b] (List.getElem?_eq_getElem h1), List.getElem?_eq_getElem h1]
   ·obtain ⟨d, rfl⟩ : ∃ d, b = h0.length + d := ⟨b - h0.length, by omega⟩
    rw [app_at]
    match d, (show d < 4 by omega) with
    | 0, _ => exact hI.b0.symm
    | 1, _ => exact hI.b1.symm
    | 2, _ => rw [← hfl]; exact hI.b2.symm
    | 3, _ => rw [hGN]; exact hI.b3.symm
  ·simp only [walkM, List.length_append, List.length_cons, List.length_nil, List.length_replicate] at hb hb2 ⊢
   refine ⟨?_, fun o ho => ?_⟩
   ·rw [List.getElem?_append_right (by simp; omega), List.getElem?_replicate, if_pos]
    simp at hb2 ⊢
    omega
   ·by_cases h1 : b = h0.length + 4
    ·rw [h1, List.getElem?_set_self (by omega)] at ho
     obtain rfl := Option.some.inj ho
     rfl
    ·rw [List.getElem?_set_ne (by omega)] at ho
     exact hI.own b o (by omega) ho
 ·have hrep : ∀ k, rep k [Value.int .i64 0, .int .i64 0] = cellsL (List.replicate k (0, 0)) := fun k => by
   induction k with
   | zero => rfl
   | succ k ih =>
    show (List.replicate (k + 1) [Value.int .i64 0, .int .i64 0]).flatten = _
    rw [List.replicate_succ, List.flatten_cons, List.replicate_succ]
    show _ ++ rep k [Value.int .i64 0, .int .i64 0] = cells2 (0, 0) ++ cellsL (List.replicate k (0, 0))
    rw [ih]; rfl
  have hiter : (H ++ [O.iter (some mb) N [] N])[h0.length + 4]? = some (.iter (some mb) N [] N) := by rw [← hlH, app_at0]; rfl
  refine ⟨⟨List.replicate N (0, 0), fun b o hb => app_of (by rw [hH]; exact app_of hb _) _, app_of hb0 _, app_of (by rw [hH, app_at]; rfl) _, app_of (by rw [hH, app_at, ← hrep]; rfl) _, app_of (by rw [hH, app_at]; rfl) _, hiter, by simp [hlH], fun b o hb ho => ?_, by simp, fun y _ hy => by simp at hy, List.nodup_nil, fun b hb => by simp at hb⟩, ?_⟩
  ·have := (List.getElem?_eq_some_iff.1 ho).1
   simp [hlH] at this
   omega
  ·simp [hlH]
end Go.Proofs.Ytjlkndkedknocaa
namespace Go.Ai
theorem and3 {p : Nat} (hp : p < 4) : binV .and (.int .i64 ((p : Int) + 2)) (.int .i64 3) = some (.int .i64 (((p + 2) % 4 : Nat) : Int)) := by
 match p, hp with
 | 0, _ => rfl
 | 1, _ => rfl
 | 2, _ => rfl
 | 3, _ => rfl
end Go.Ai
namespace Go.Proofs.Ytjlkndkedknocaa
open Go Go.Ai
attribute [local instance] Classical.propDecidable
theorem cellsL_two : ∀ {l : List (Nat × Nat)} {j : Nat} {x : Nat × Nat}, l[j]? = some x → j * 2 + 2 ≤ (cellsL l).length ∧ ((cellsL l).drop (j * 2)).take 2 = cells2 x ∧ (cellsL l)[j * 2]? = some (.int .i64 x.1) ∧ (cellsL l)[j * 2 + 1]? = some (.int .i64 x.2)
 | [], j, x, h => by simp at h
 | y :: l, 0, x, h => by
  simp at h
  subst h
  have e : cellsL (y :: l) = cells2 y ++ cellsL l := rfl
  rw [e]
  simp [cells2]
 | y :: l, j + 1, x, h => by
  simp at h
  obtain ⟨h1, h2, h3, h4⟩ := cellsL_two h
  have e : cellsL (y :: l) = cells2 y ++ cellsL l := rfl
  rw [e, show (j + 1) * 2 = j * 2 + 2 by omega]
  simp only [cells2, List.cons_append, List.nil_append, List.length_cons, List.drop_succ_cons, List.getElem?_cons_succ, show j * 2 + 2 + 1 = (j * 2 + 1) + 2 by omega]
  exact ⟨by omega, h2, h3, h4⟩
theorem finL_at {G : Dg} {a : Nat} (h : a < 2 * G.n) : (finL G)[a]? = some (finT G a) := by simp [finL, h]
variable {E : Env} (hE : OE E)
include hE
theorem walk1_ {G : Dg} (hG : GoodG G) {pl k pf pe pL eb N m a0 : Nat} (ha0 : a0 < 2 * G.n) (hm : 0 < m) (hmend : itr (nx G) a0 m = a0) (hmid : ∀ i, 0 < i → i < m → itr (nx G) a0 i ≠ a0)
  {I : Nat → List O → Nat → Prop}
  (hdi : ∀ i h f, I i h f → h[pf]? = some (.cells [.int .i64 a0] 3 (some 0)) ∧ h[pe]? = some (.cells [.slice (some ⟨eb, 0, none⟩) (2 * G.n) (2 * G.n)] 215 (some 0)) ∧ h[eb]? = some (.cells (cellsL (finL G)) 72 (some 0)) ∧
   h[pL]? = some (.cells [.pointer (some ⟨pl, 0, none⟩)] 155 (some 0)) ∧ (∃ uv xa xc L av cnt cv kk mv, h[pl]? = some (.cells (linkC uv xa G.n xc L av cnt cv kk mv) 170 (some 0)) ∧ CrossP h xa G.n (fun i j => G.X i j) G.s) ∧ (0 < i → f < N))
  (hround : ∀ i h f, i < m → I i h f → DC E (yB + k) [endV (finT G (itr (nx G) a0 i))] ⟨h, h.length⟩ fun o st' => o = .ret (.bool true) ∧ I (i + 1) (joined ⟨h, f⟩ st').h (joined ⟨h, f⟩ st').fl)
  {h : List O} (hi : I 0 h h.length) (hN : N = h.length) :
  DC E 212 [tok k, .pointer (some ⟨pf, 0, none⟩), .pointer (some ⟨pe, 0, none⟩), .pointer (some ⟨pL, 0, none⟩)] ⟨h, h.length⟩ fun o st' => o = .ret (.tuple #[]) ∧ I m st'.h st'.fl := by
 refine hE.fnC (body := rb212) rfl ?_
 unfold rb212
 have hN2 := nx_perm hG
 have hsz := hG.size
 obtain ⟨f0, _⟩ := hdi 0 h h.length hi
 simp [rd_def, f0]
 refine DW_loop (fun kk fr st => ∃ i h f, i + kk = m ∧ i < m ∧ st = ⟨h, f⟩ ∧ I i h f ∧ get fr 0 = tok k ∧ get fr 1 = .pointer (some ⟨pf, 0, none⟩) ∧ get fr 2 = .pointer (some ⟨pe, 0, none⟩) ∧ get fr 3 = .pointer (some ⟨pL, 0, none⟩) ∧ get fr 5 = .int .i64 (itr (nx G) a0 i)) ?_ (k := m) ?_
 ·rintro kk fr st ⟨i, h1, f1, hik, him, rfl, hI, g0, g1, g2, g3, g5⟩
  obtain ⟨d1, d2, d3, d4, ⟨uv, xa, xc, L, av, cnt, cv, kc, mv, d5, d6⟩, d7⟩ := hdi _ _ _ hI
  have ha := hN2.itr_lt ha0 i
  have hr := hround i h1 f1 him hI
  have ha1 : itr (nx G) a0 (i + 1) = nx G (itr (nx G) a0 i) := rfl
  generalize itr (nx G) a0 i = a at ha hr ha1 g5
  have ha' : (a : Int) < 2 * (G.n : Int) := by omega
  obtain ⟨c1, c2, c3, c4⟩ := cellsL_two (finL_at ha)
  simp only [cells2] at c2
  simp only [endV] at hr
  simp [g0, g2, g5, rd_def, rdN_def, d2, d3, ha, ha', c1, c2, tok]
  refine hr.imp ?_
  rintro o st' ⟨rfl, hI'⟩
  simp only [callK_ret]
  generalize joined ⟨h1, f1⟩ st' = s1 at hI' ⊢
  obtain ⟨h2, f2⟩ := s1
  simp only at hI' ⊢
  obtain ⟨k1, k2, k3, k4, ⟨uv, xa, xc, L, av, cnt, cv, kc, mv, k5, k6⟩, k7⟩ := hdi _ _ _ hI'
  unfold linkC at k5
  obtain ⟨xb, xo, hxa, hxr⟩ := k6
  obtain rfl := hxa (by omega)
  obtain ⟨t0, t1, t2, t3, _⟩ := hG.T a ha
  have hf2 := k7 (by omega)
  have hq : (G.T a 3 + 2) % 4 < 4 := Nat.mod_lt _ (by omega)
  have hcr := rd_of_rdN (hxr _ t2) (show (G.T a 3 + 2) % 4 < 5 by omega)
  have hv : (crossC (fun j => (G.X (G.T a 2) j : Int)) (G.s (G.T a 2)))[(G.T a 3 + 2) % 4]? = some (.int .i64 (nx G a)) := by
   unfold nx
   generalize (G.T a 3 + 2) % 4 = q at hq ⊢
   match q, hq with
   | 0, _ => rfl
   | 1, _ => rfl
   | 2, _ => rfl
   | 3, _ => rfl
  rw [hv] at hcr
  rw [rd_def] at hcr
  have hw : IntKind.i64.wrap ((G.T a 3 : Int) + 2) = (G.T a 3 : Int) + 2 := by rw [w64_id] <;> omega
  have e1 : (finT G a).1 = G.T a 2 := rfl
  have e2 : (finT G a).2 = G.T a 3 := rfl
  rw [e1] at c3
  rw [e2] at c4
  have t2' : (G.T a 2 : Int) < G.n := by omega
  have hq' : (((G.T a 3 + 2) % 4 : Nat) : Int) < 4 := by omega
  have ha3 := and3 t3
  generalize (G.T a 3 + 2) % 4 = q at hq hcr hq' ha3
  by_cases hend : nx G a = a0
  ·have him' : i + 1 = m := by
    rcases Nat.lt_or_ge (i + 1) m with h | h
    ·exact absurd (ha1.trans hend) (hmid _ (by omega) h)
    ·omega
   subst him'
   have hqf : ¬ (h.length ≤ f2) := by omega
   simp [g0, g1, g2, g3, g5, rd_def, k1, k2, k3, k4, k5, ha, ha', c3, c4, hw, ha3, t2, t2', hq, hq', hcr, hend, endK_ret, back, Out.scalar, scalar, hqf]
   exact hI'
  ·have him' : i + 1 ≠ m := fun e => hend (by rw [← ha1, e]; exact hmend)
   simp [g0, g1, g2, g3, g5, rd_def, k1, k2, k3, k4, k5, ha, ha', c3, c4, hw, ha3, t2, t2', hq, hq', hcr, hend]
   exact ⟨kk - 1, by omega, i + 1, by omega, by omega, h2, f2, ⟨rfl, rfl⟩, hI', rfl, ha1.symm⟩
 ·exact ⟨0, h, h.length, by omega, hm, rfl, hi, by simp [itr]⟩
end Go.Proofs.Ytjlkndkedknocaa
namespace Go.Proofs.Ytjlkndkedknocaa
open Go Go.Ai
attribute [local instance] Classical.propDecidable
noncomputable def wordP (G : Dg) (x : Nat × Nat) : List Int := if x.2 = 0 then [gen G (G.X x.1 1) * G.s x.1] else []
noncomputable def ownP (G : Dg) (k : Int) (x : Nat × Nat) : Int := if x.2 = 0 ∧ nth (cpL G) (G.X x.1 1) = k then G.s x.1 else 0
def RndP (h : List O) (f base k N p8 p11 : Nat) (ws : List Int) (sm : Int) (st' : St) : Prop :=
 ∃ h' f' ov', joined ⟨h, f⟩ st' = ⟨h', f'⟩ ∧ base ≤ f' ∧ f' ≤ k ∧ h'[p8]? = some (.cells [ov'] 34 (some 0)) ∧ h'[p11]? = some (.cells [.int .i64 sm] 3 (some 0)) ∧
  OwnT h' N ov' ws.length (intsC ws) 3 1 ∧ h.length ≤ h'.length ∧ ∀ (b : Nat) (o : O), b < N → h[b]? = some o → b ≠ p8 → b ≠ p11 → h'[b]? = some o
variable {E : Env} (hE : OE E)
include hE
theorem roundL_ {h hL : List O} {f k pl n N base dB pc p7 p8 p11 i xc : Nat} {xa : Option Addr} {x : Nat → Nat → Int} {s : Nat → Int} {L : Int} {frL : Fr} {c p : Nat} {ws : List Int} {sm comp : Int} {ov : Value}
  (hk : h[k]? = some (.loop false 98 frL [44] (lcA 70 0) (lcB 70 0))) (g2 : get frL 2 = .pointer (some ⟨dB, 0, none⟩)) (g3 : get frL 3 = .pointer (some ⟨pc, 0, none⟩)) (g7 : get frL 7 = .pointer (some ⟨p7, 0, none⟩)) (g8 : get frL 8 = .pointer (some ⟨p8, 0, none⟩)) (g11 : get frL 11 = .pointer (some ⟨p11, 0, none⟩))
  (hl : LnkP hL pl n x s L) (hS : Snd n x s L) (hs : Sub hL h) (hdB : hL[dB]? = some (.cells [.slice xa n xc, .int .i64 L] 24 (some 0))) (hx : CrossP hL xa n x s) (hpc : hL[pc]? = some (.cells [.int .i64 comp] 3 (some 0)))
  (h7 : h[p7]? = some (.cells [.pointer (some ⟨pl, 0, none⟩)] 155 (some 0))) (h8 : h[p8]? = some (.cells [ov] 34 (some 0))) (h11 : h[p11]? = some (.cells [.int .i64 sm] 3 (some 0)))
  (hov : OwnT h N ov ws.length (intsC ws) 3 1) (hN : N ≤ h.length) (hws : ws.length ≤ 1000) (hsm : -1000 ≤ sm ∧ sm ≤ 1000) (hc : c < n) (hp : p < 4)
  (b0 : hL.length ≤ base) (b7 : p7 < N) (b8 : base ≤ p8) (b11 : base ≤ p11) (bk : base ≤ k) (bf : base ≤ f) (l7 : k < N) (l8 : p8 < N) (l11 : p11 < N) (n1 : p7 ≠ p8) (n2 : p7 ≠ p11) (n3 : p8 ≠ p11) :
  DC E (yB + k) [endV (c, p)] ⟨h, h.length⟩ fun o st' => o = .ret (.bool true) ∧ RndP h f base k N p8 p11 (ws ++ wordP (dgOf n x s L) (c, p)) (sm + ownP (dgOf n x s L) comp (c, p)) st' := by
 have lk := (List.getElem?_eq_some_iff.1 hk).1
 have m1 : k ≠ p7 := fun e => by subst e; rw [hk] at h7; cases h7
 have m2 : k ≠ p8 := fun e => by subst e; rw [hk] at h8; cases h8
 have m3 : k ≠ p11 := fun e => by subst e; rw [hk] at h11; cases h11
 obtain ⟨G, hGe⟩ : ∃ G, G = dgOf n x s L := ⟨_, rfl⟩
 have hG : GoodG G := by rw [hGe]; exact good_of hS
 have hGn : G.n = n := by rw [hGe]; rfl
 have hGs : G.s = s := by rw [hGe]; rfl
 have hX : ∀ i q, i < n → q < 4 → x i q = (G.X i q : Int) := fun i q hi hq => by rw [hGe]; exact sound_x hS hi hq
 have hsz := hS.size
 rw [← hGe]
 refine DC_yield (hE.Y k) hk rfl hE.c70_0a hE.c70_0b ?_
 unfold ra70_0
 simp [putAll, endV, wrN_at0, set_at0]
 obtain ⟨H0, hH0⟩ : ∃ H, H = h ++ [O.cells [.int .i64 c, .int .i64 p] 72 (some 0)] := ⟨_, rfl⟩
 have k0 : H0[k]? = some (.loop false 98 frL [44] (lcA 70 0) (lcB 70 0)) := by rw [hH0]; exact app_of hk _
 rw [← hH0]
 refine ⟨_, turn_eq k0, ?_⟩
 obtain ⟨H1, hH1⟩ : ∃ H, H = H0.set k (O.loop (!false) 98 frL [44] (lcA 70 0) (lcB 70 0)) := ⟨_, rfl⟩
 have K1 : ∀ (b : Nat) (o : O), h[b]? = some o → b ≠ k → H1[b]? = some o := fun b o hb hn => by rw [hH1]; exact set_ne (by rw [hH0]; exact app_of hb _) hn
 have L1 : H1.length = h.length + 1 := by rw [hH1, hH0]; simp
 have a9 : H1[h.length]? = some (.cells [.int .i64 c, .int .i64 p] 72 (some 0)) := by rw [hH1]; exact set_ne (by rw [hH0, app_at0]; rfl) (by omega)
 have kk1 : H1[k]? = some (.loop true 98 frL [44] (lcA 70 0) (lcB 70 0)) := by rw [hH1]; exact set_self k0
 have s1 : Sub hL H1 := by rw [hH1, hH0]; exact (hs.app _).set (by omega) _
 rw [← hH1]
 unfold rl70_0
 have hlow : min (min h.length k) k < h.length := by omega
 by_cases hp0 : p = 0
 ·subst hp0
  obtain ⟨xb, xo, hxa, hxr⟩ := hx
  obtain rfl := hxa (by omega)
  have hcr : rdN H1 xb (xo + c * 5) 5 = some (crossC (x c) (s c)) := s1.rdN (hxr c hc)
  rw [rdN_def] at hcr
  simp only [crossC] at hcr
  rw [hX c 0 hc (by omega), hX c 1 hc (by omega), hX c 2 hc (by omega), hX c 3 hc (by omega)] at hcr
  have d1 := s1 _ _ hdB
  have dc := s1 _ _ hpc
  obtain ⟨H2, hH2⟩ : ∃ H, H = H1 ++ [O.cells [.int .i64 (G.X c 0), .int .i64 (G.X c 1), .int .i64 (G.X c 2), .int .i64 (G.X c 3), .int .i64 (s c)] 107 (some 0)] := ⟨_, rfl⟩
  have L2 : H2.length = H1.length + 1 := by rw [hH2]; simp
  have K2 : ∀ (b : Nat) (o : O), H1[b]? = some o → H2[b]? = some o := fun b o hb => by rw [hH2]; exact app_of hb _
  have s2 : Sub hL H2 := fun b o hb => K2 _ _ (s1 b o hb)
  have q2 : H2[H1.length]? = some (O.cells [.int .i64 (G.X c 0), .int .i64 (G.X c 1), .int .i64 (G.X c 2), .int .i64 (G.X c 3), .int .i64 (s c)] 107 (some 0)) := by rw [hH2, app_at0]; rfl
  have hXlt := hG.X c 1 (by rw [hGn]; exact hc) (by omega)
  rw [hGn] at hXlt
  have hg := generator_ hE (hl.sub s2) hsz hXlt
  rw [← hGe] at hg
  have hgq : (arN G (G.X c 1) : Int) + 1 = gen G (G.X c 1) := rfl
  rw [hgq] at hg
  have hgv := gen_le hG (by rw [hGn]; exact hc) (show 1 < 4 by omega)
  have hac := arC_le G
  rw [hGn] at hac
  have w1 : IntKind.i64.wrap (gen G (G.X c 1) * s c) = gen G (G.X c 1) * s c := by
   rcases hS.sign c hc with e | e <;> rw [e] <;> rw [w64_id] <;> omega
  have e1 : wordP G (c, 0) = [gen G (G.X c 1) * s c] := by unfold wordP; rw [if_pos rfl, hGs]
  obtain ⟨H3, hH3⟩ : ∃ H, H = H2 ++ [O.cells [.int .i64 (gen G (G.X c 1) * s c)] 3 (some 0)] := ⟨_, rfl⟩
  have L3 : H3.length = H2.length + 1 := by rw [hH3]; simp
  have K3 : ∀ (b : Nat) (o : O), H2[b]? = some o → H3[b]? = some o := fun b o hb => by rw [hH3]; exact app_of hb _
  have hov3 : OwnT H3 N ov ws.length (intsC ws) 3 1 := hov.keep fun b s' _ hb e => K3 _ _ (K2 _ _ (K1 _ _ e (by omega)))
  have hread : readSlice H3 1 1 (some ⟨H2.length, 0, none⟩) = some [.int .i64 (gen G (G.X c 1) * s c)] := by rw [hH3]; simp [readSlice, rdN_at0]
  obtain ⟨b', H4, f4, happ, hb', hown, hf1, hf2, hL4, K4⟩ := append_T (fl := min h.length k) (c := 1) (bytes := 8) hov3 hread (by simp) (by simp) (by omega) (by simp only [roomMax]; omega) (by omega)
  have r2 := K2 _ _ (K1 _ _ h8 (Ne.symm m2))
  have r7 := K2 _ _ (K1 _ _ h7 (Ne.symm m1))
  have r11 := K2 _ _ (K1 _ _ h11 (Ne.symm m3))
  have r4 := K4 _ _ (K3 _ _ r2) (.inl l8)
  have kk4 := K4 _ _ (K3 _ _ (K2 _ _ kk1)) (.inl l7)
  obtain ⟨H5, hH5⟩ : ∃ H, H = H4.set p8 (O.cells [.slice (some ⟨b', 0, none⟩) (ws.length + 1) (ws.length + 1)] 34 (some 0)) := ⟨_, rfl⟩
  have kk5 : H5[k]? = some (.loop true 98 frL [44] (lcA 70 0) (lcB 70 0)) := by rw [hH5]; exact set_ne kk4 m2
  have t7 : H5[p7]? = some (.cells [.pointer (some ⟨pl, 0, none⟩)] 155 (some 0)) := by rw [hH5]; exact set_ne (K4 _ _ (K3 _ _ r7) (.inl b7)) n1
  have t11 : H5[p11]? = some (.cells [.int .i64 sm] 3 (some 0)) := by rw [hH5]; exact set_ne (K4 _ _ (K3 _ _ r11) (.inl l11)) (Ne.symm n3)
  have t13 : H5[H1.length]? = some (O.cells [.int .i64 (G.X c 0), .int .i64 (G.X c 1), .int .i64 (G.X c 2), .int .i64 (G.X c 3), .int .i64 (s c)] 107 (some 0)) := by
   rw [hH5]
   exact set_ne (K4 _ _ (K3 _ _ q2) (.inr fun c s e => by cases e)) (by omega)
  have s5 : Sub hL H5 := fun b o hb => by
   have := (List.getElem?_eq_some_iff.1 hb).1
   rw [hH5]
   exact set_ne (K4 _ _ (K3 _ _ (s2 b o hb)) (.inl (by omega))) (by omega)
  have dc5 := s5 _ _ hpc
  obtain ⟨uv, xa', xc', ab, cb, mb, z1, z2, z3, z4, z5, hO, hk'⟩ := hl.sub s5
  rw [← hGe] at z1 z4
  unfold linkC at z1
  have hcl : G.X c 1 < (cpL G).length := by have := hO.len; rw [← hGe] at this; omega
  have hX' : (G.X c 1 : Int) < 2 * (n : Int) := by omega
  have hq : h.length + 1 = H1.length := L1.symm
  rw [e1]
  have hend : ∀ (H6 : List O) (f6 : Nat) (sm' : Int), sm' = sm + ownP G comp (c, 0) → H6[k]? = some (.loop true 98 frL [44] (lcA 70 0) (lcB 70 0)) → H6[p11]? = some (.cells [.int .i64 sm'] 3 (some 0)) → (∀ b o, H5[b]? = some o → b ≠ p11 → H6[b]? = some o) → H6.length = H5.length → base ≤ f6 → f6 ≤ h.length →
    ∃ st4, turn true k ⟨H6, f6⟩ = some st4 ∧ RndP h f base k N p8 p11 (ws ++ [gen G (G.X c 1) * s c]) (sm + ownP G comp (c, 0)) st4 := fun H6 f6 sm' hsm' u1 u2 u3 u4 u5 u6 => by
   refine ⟨_, turn_eq u1, ?_⟩
   have hlow6 : min f6 k < h.length := by omega
   refine ⟨H6.set k (.loop (!true) 98 frL [44] (lcA 70 0) (lcB 70 0)), min f (min f6 k), .slice (some ⟨b', 0, none⟩) (ws.length + 1) (ws.length + 1), by simp only [joined]; rw [if_pos hlow6], by omega, by omega, ?_, ?_, ?_, ?_, fun b o hbN hb hn1 hn2 => ?_⟩
   ·refine set_ne (u3 _ _ ?_ n3) (Ne.symm m2)
    rw [hH5]; exact set_self r4
   ·rw [← hsm']; exact set_ne u2 (Ne.symm m3)
   ·have : OwnT H4 N (.slice (some ⟨b', 0, none⟩) (ws.length + 1) (ws.length + 1)) (ws ++ [gen G (G.X c 1) * s c]).length (intsC (ws ++ [gen G (G.X c 1) * s c])) 3 1 := by simpa [intsC] using hown
    refine this.keep fun b s' e1 e2 e3 => set_ne (u3 _ _ ?_ (by omega)) (by omega)
    rw [hH5]; exact set_ne e3 (by omega)
   ·rw [List.length_set, u4, hH5, List.length_set]; omega
   ·by_cases hbk : b = k
    ·subst hbk
     rw [hk] at hb
     obtain rfl := Option.some.inj hb
     exact set_self u1
    ·refine set_ne (u3 _ _ ?_ hn2) hbk
     rw [hH5]
     exact set_ne (K4 _ _ (K3 _ _ (K2 _ _ (K1 _ _ hb hbk))) (.inl hbN)) hn1
  have hmin : min f4 p8 ≤ h.length := by omega
  have hminA : min k H1.length = k := by omega
  by_cases hcomp : nth (cpL G) (G.X c 1) = comp
  ·have e2 : ownP G comp (c, 0) = s c := by unfold ownP; rw [if_pos ⟨rfl, hcomp⟩, hGs]
   have hw2 : IntKind.i64.wrap (sm + s c) = sm + s c := by rcases hS.sign c hc with e | e <;> rw [e] <;> rw [w64_id] <;> omega
   simp [g2, g3, g7, g8, g11, rd_def, rdN_def, a9, d1, dc, hc, hcr, wrN_at0, set_at0, app_at0, ← hH2, ← L2, r2, r7, q2, hminA, DC_of hg, bit, w1, ← hH3, happ, wrN_def, r4, ← hH5, t7, t13, z1, hX', hXlt, z4, intsC_get hcl, hcomp, dc5, t11, hw2]
   exact hend _ _ (sm + s c) (by rw [e2]) (set_ne kk5 m3) (set_self t11) (fun b o hb hn => set_ne hb hn) List.length_set (by omega) (by omega)
  ·have e2 : ownP G comp (c, 0) = 0 := by unfold ownP; rw [if_neg fun h => hcomp h.2]
   simp [g2, g3, g7, g8, g11, rd_def, rdN_def, a9, d1, dc, hc, hcr, wrN_at0, set_at0, app_at0, ← hH2, ← L2, r2, r7, q2, hminA, DC_of hg, bit, w1, ← hH3, happ, wrN_def, r4, ← hH5, t7, t13, z1, hX', hXlt, z4, intsC_get hcl, hcomp, dc5]
   exact hend H5 _ sm (by rw [e2, Int.add_zero]) kk5 t11 (fun b o hb _ => hb) rfl (by omega) (by omega)
 ·have hpz : ¬ (p : Int) = 0 := by omega
  have e1 : wordP G (c, p) = [] := if_neg hp0
  have e2 : ownP G comp (c, p) = 0 := if_neg (fun h => hp0 h.1)
  rw [e1, e2, List.append_nil, Int.add_zero]
  simp [rd_def, a9, hpz, hp0]
  refine ⟨_, turn_eq kk1, ?_⟩
  refine ⟨H1.set k (.loop (!true) 98 frL [44] (lcA 70 0) (lcB 70 0)), min f (min (min h.length k) k), ov, by simp only [joined]; rw [if_pos hlow], by omega, by omega, ?_, ?_, ?_, ?_, fun b o hbN hb hn1 hn2 => ?_⟩
  ·exact set_ne (K1 _ _ h8 (Ne.symm m2)) (Ne.symm m2)
  ·exact set_ne (K1 _ _ h11 (Ne.symm m3)) (Ne.symm m3)
  ·exact hov.keep fun b s' _ hb e => set_ne (K1 _ _ e (by omega)) (by omega)
  ·rw [List.length_set]; omega
  ·by_cases hbk : b = k
   ·subst hbk
    rw [hk] at hb
    obtain rfl := Option.some.inj hb
    exact set_self kk1
   ·exact set_ne (K1 _ _ hb hbk) hbk
end Go.Proofs.Ytjlkndkedknocaa
namespace Go.Proofs.Ytjlkndkedknocaa
open Go Go.Ai
attribute [local instance] Classical.propDecidable
noncomputable def perA (G : Dg) (a : Nat) : Nat := if h : ∃ P, (0 < P ∧ itr (nx G) a P = a ∧ P ≤ 2 * G.n) ∧ ∀ t, 0 < t → t < P → itr (nx G) a t ≠ a then h.choose else 1
theorem perA_spec {G : Dg} (hG : GoodG G) {a : Nat} (ha : a < 2 * G.n) : (0 < perA G a ∧ itr (nx G) a (perA G a) = a ∧ perA G a ≤ 2 * G.n) ∧ ∀ t, 0 < t → t < perA G a → itr (nx G) a t ≠ a := by
 have h := (nx_perm hG).period ha
 unfold perA
 rw [dif_pos h]
 exact h.choose_spec
noncomputable def wordT (G : Dg) (a : Nat) : Nat → List Int
 | 0 => []
 | i + 1 => wordT G a i ++ wordP G (finT G (itr (nx G) a i))
noncomputable def ownT (G : Dg) (k : Int) (a : Nat) : Nat → Int
 | 0 => 0
 | i + 1 => ownT G k a i + ownP G k (finT G (itr (nx G) a i))
theorem wordT_len (G : Dg) (a : Nat) : ∀ i, (wordT G a i).length ≤ i := by
 intro i
 induction i with
 | zero => exact Nat.le_refl _
 | succ i ih =>
  simp only [wordT, List.length_append, wordP]
  split
  ·simp; omega
  ·simp; omega
theorem ownT_le {G : Dg} (hG : GoodG G) {k : Int} {a : Nat} (ha : a < 2 * G.n) : ∀ i : Nat, -(i : Int) ≤ ownT G k a i ∧ ownT G k a i ≤ i := by
 intro i
 induction i with
 | zero => simp [ownT]
 | succ i ih =>
  obtain ⟨t0, t1, t2, t3, _⟩ := hG.T _ ((nx_perm hG).itr_lt ha i)
  have hs := hG.sign _ t2
  simp only [ownT, ownP]
  have e : (finT G (itr (nx G) a i)).1 = G.T (itr (nx G) a i) 2 := rfl
  rw [e]
  split
  ·rcases hs with h | h <;> rw [h] <;> omega
  ·omega
theorem joined_min {H h : List O} {f g : Nat} (h1 : f ≤ g) (h2 : g < H.length) : joined ⟨H, f⟩ ⟨h, g⟩ = ⟨h, f⟩ := by
 simp only [joined]
 rw [if_pos h2, Nat.min_eq_left h1]
variable {E : Env} (hE : OE E)
include hE
theorem rangeL_ {h hL : List O} {f0 pl n dB pc p7 p8 p11 pf pe pL eb xc a0 : Nat} {xa : Option Addr} {x : Nat → Nat → Int} {s : Nat → Int} {L : Int} {fr : Fr} {comp : Int} {ov : Value} {Q : Post}
  (g43 : get fr 43 = .func (.func 212) #[] #[.pointer (some ⟨pf, 0, none⟩), .pointer (some ⟨pe, 0, none⟩), .pointer (some ⟨pL, 0, none⟩)])
  (g2 : get fr 2 = .pointer (some ⟨dB, 0, none⟩)) (g3 : get fr 3 = .pointer (some ⟨pc, 0, none⟩)) (g7 : get fr 7 = .pointer (some ⟨p7, 0, none⟩)) (g8 : get fr 8 = .pointer (some ⟨p8, 0, none⟩)) (g11 : get fr 11 = .pointer (some ⟨p11, 0, none⟩))
  (hl : LnkP hL pl n x s L) (hS : Snd n x s L) (hs : Sub hL h) (hdB : hL[dB]? = some (.cells [.slice xa n xc, .int .i64 L] 24 (some 0))) (hx : CrossP hL xa n x s) (hpc : hL[pc]? = some (.cells [.int .i64 comp] 3 (some 0)))
  (h7 : h[p7]? = some (.cells [.pointer (some ⟨pl, 0, none⟩)] 155 (some 0))) (h8 : h[p8]? = some (.cells [emptyS] 34 (some 0))) (h11 : h[p11]? = some (.cells [.int .i64 0] 3 (some 0)))
  (ha0 : a0 < 2 * n) (hf : h[pf]? = some (.cells [.int .i64 a0] 3 (some 0))) (he : h[pe]? = some (.cells [.slice (some ⟨eb, 0, none⟩) (2 * n) (2 * n)] 215 (some 0))) (heb : h[eb]? = some (.cells (cellsL (finL (dgOf n x s L))) 72 (some 0))) (hLp : h[pL]? = some (.cells [.pointer (some ⟨pl, 0, none⟩)] 155 (some 0)))
  (l0 : f0 ≤ hL.length) (l8 : hL.length ≤ p8) (l11 : hL.length ≤ p11) (n1 : p7 ≠ p8) (n2 : p7 ≠ p11) (n3 : p8 ≠ p11) (n4 : pf ≠ p11)
  (hQ : ∀ h' ov', (∀ (b : Nat) (o : O), h[b]? = some o → b ≠ p8 → b ≠ p11 → h'[b]? = some o) → h'[p8]? = some (.cells [ov'] 34 (some 0)) → h'[p11]? = some (.cells [.int .i64 (ownT (dgOf n x s L) comp a0 (perA (dgOf n x s L) a0))] 3 (some 0)) →
   OwnT h' h.length ov' (wordT (dgOf n x s L) a0 (perA (dgOf n x s L) a0)).length (intsC (wordT (dgOf n x s L) a0 (perA (dgOf n x s L) a0))) 3 1 → Q .normal fr ⟨h', f0⟩) :
  DW E (.rangeF (.tmp 43) [44] 98 (lcA 70 0) (lcB 70 0)) fr ⟨h, f0⟩ Q := by
 obtain ⟨G, hGe⟩ : ∃ G, G = dgOf n x s L := ⟨_, rfl⟩
 have hG : GoodG G := by rw [hGe]; exact good_of hS
 have hGn : G.n = n := by rw [hGe]; rfl
 have hGs : G.s = s := by rw [hGe]; rfl
 have hsz := hS.size
 rw [← hGe] at heb hQ
 have haG : a0 < 2 * G.n := by rw [hGn]; exact ha0
 obtain ⟨⟨pm, pend, ple⟩, pmid⟩ := perA_spec hG haG
 have lp8 := (List.getElem?_eq_some_iff.1 h8).1
 have lp11 := (List.getElem?_eq_some_iff.1 h11).1
 have lp7 := (List.getElem?_eq_some_iff.1 h7).1
 have lpf := (List.getElem?_eq_some_iff.1 hf).1
 have lpe := (List.getElem?_eq_some_iff.1 he).1
 have leb := (List.getElem?_eq_some_iff.1 heb).1
 have lpL := (List.getElem?_eq_some_iff.1 hLp).1
 have hsl := hs.len
 refine DW_rangeF (f := 212) (vs := [tok h.length, .pointer (some ⟨pf, 0, none⟩), .pointer (some ⟨pe, 0, none⟩), .pointer (some ⟨pL, 0, none⟩)]) (by simp [g43]) (by decide) ?_
 obtain ⟨hK, hhK⟩ : ∃ H, H = h ++ [O.loop false 98 fr [44] (lcA 70 0) (lcB 70 0)] := ⟨_, rfl⟩
 have lK : hK.length = h.length + 1 := by rw [hhK]; simp
 have KK : ∀ (b : Nat) (o : O), h[b]? = some o → hK[b]? = some o := fun b o hb => by rw [hhK]; exact app_of hb _
 have kk : hK[h.length]? = some (.loop false 98 fr [44] (lcA 70 0) (lcB 70 0)) := by rw [hhK, app_at0]; rfl
 rw [← hhK, ← lK]
 have hlsub := fun (h' : List O) (hk : Sub hL h') => hl.sub hk
 have key := walk1_ hE hG (pl := pl) (k := h.length) (pf := pf) (pe := pe) (pL := pL) (eb := eb) (N := hK.length) (m := perA G a0) haG pm pend pmid
  (I := fun i h' f' => hL.length ≤ f' ∧ (0 < i → f' < hK.length) ∧ hK.length ≤ h'.length ∧ (∀ (b : Nat) (o : O), hK[b]? = some o → b ≠ p8 → b ≠ p11 → h'[b]? = some o) ∧
   ∃ ov, h'[p8]? = some (.cells [ov] 34 (some 0)) ∧ h'[p11]? = some (.cells [.int .i64 (ownT G comp a0 i)] 3 (some 0)) ∧ OwnT h' hK.length ov (wordT G a0 i).length (intsC (wordT G a0 i)) 3 1)
  ?_ ?_ (h := hK) ?_ rfl
 ·refine key.imp ?_
  rintro o ⟨h', f'⟩ ⟨rfl, i1, i2, i3, i4, ov, i5, i6, i7⟩
  simp only at i1 i2 i3 i4 i5 i6 i7
  have hf := i2 pm
  refine ⟨⟨_, rfl⟩, ⟨h'.set h.length .dead, f0⟩, ?_, ?_⟩
  ·have hfm : min f0 h.length = f0 := by omega
   rw [joined_min (f := f0) (H := hK) (h := h') (by omega) hf, over_eq (i4 _ _ kk (by omega) (by omega)), hfm]
  ·refine hQ (h'.set h.length .dead) ov (fun b o hb h1 h2 => ?_) ?_ ?_ ?_
   ·have := (List.getElem?_eq_some_iff.1 hb).1
    exact set_ne (i4 _ _ (KK _ _ hb) h1 h2) (by omega)
   ·exact set_ne i5 (by omega)
   ·exact set_ne i6 (by omega)
   ·have : OwnT h' h.length ov (wordT G a0 (perA G a0)).length (intsC (wordT G a0 (perA G a0))) 3 1 := by
     rcases i7 with h1 | ⟨h1, h2 | ⟨b, s', h3, h4, h5, h6⟩⟩
     ·exact .inl h1
     ·exact .inr ⟨h1, .inl h2⟩
     ·exact .inr ⟨h1, .inr ⟨b, s', h3, by omega, h5, h6⟩⟩
    rcases i7 with h1 | ⟨h1, h2 | ⟨b, s', h3, h4, h5, h6⟩⟩
    ·exact .inl h1
    ·exact .inr ⟨h1, .inl h2⟩
    ·exact .inr ⟨h1, .inr ⟨b, s', h3, by omega, set_ne h5 (by omega), h6⟩⟩
 ·rintro i h' f' ⟨i1, i2, i3, i4, _⟩
  have hsub' : Sub hL h' := fun b o hb => by
   have := (List.getElem?_eq_some_iff.1 hb).1
   exact i4 _ _ (KK _ _ (hs b o hb)) (by omega) (by omega)
  have hp8n : ∀ b c el, h[b]? = some (.cells c el (some 0)) → el ≠ 34 → b ≠ p8 := fun b c el hb hne e => by
   subst e; rw [hb] at h8; simp at h8; exact hne h8.2
  have hp11n : ∀ b c el, h[b]? = some (.cells c el (some 0)) → el ≠ 3 → b ≠ p11 := fun b c el hb hne e => by
   subst e; rw [hb] at h11; simp at h11; exact hne h11.2
  refine ⟨i4 _ _ (KK _ _ hf) (hp8n _ _ _ hf (by decide)) n4, ?_, ?_, ?_, ?_, i2⟩
  ·rw [hGn]; exact i4 _ _ (KK _ _ he) (hp8n _ _ _ he (by decide)) (hp11n _ _ _ he (by decide))
  ·exact i4 _ _ (KK _ _ heb) (hp8n _ _ _ heb (by decide)) (hp11n _ _ _ heb (by decide))
  ·exact i4 _ _ (KK _ _ hLp) (hp8n _ _ _ hLp (by decide)) (hp11n _ _ _ hLp (by decide))
  ·obtain ⟨uv, xa', xc', ab, cb, mb, z1, z2, z3, z4, z5, hO, hk'⟩ := hl.sub hsub'
   refine ⟨uv, xa', xc', L, _, _, _, _, _, by rw [hGn]; exact z1, ?_⟩
   rw [hGn, hGs]
   obtain ⟨xb, xo, y1, y2⟩ := z2
   refine ⟨xb, xo, y1, fun i hi => ?_⟩
   rw [y2 i hi, crossC_toNat hS hi, hGe]
   rfl
 ·rintro i h' f' him ⟨i1, i2, i3, i4, ov, i5, i6, i7⟩
  have hsub' : Sub hL h' := fun b o hb => by
   have := (List.getElem?_eq_some_iff.1 hb).1
   exact i4 _ _ (KK _ _ (hs b o hb)) (by omega) (by omega)
  obtain ⟨t0, t1, t2, t3, _⟩ := hG.T _ ((nx_perm hG).itr_lt haG i)
  have hwl := wordT_len G a0 i
  have hol := ownT_le hG (k := comp) haG i
  have hround := roundL_ hE (h := h') (hL := hL) (f := f') (k := h.length) (N := hK.length) (base := hL.length) (i := i) (c := G.T (itr (nx G) a0 i) 2) (p := G.T (itr (nx G) a0 i) 3) (ws := wordT G a0 i) (sm := ownT G comp a0 i)
   (i4 _ _ kk (by omega) (by omega)) g2 g3 g7 g8 g11 hl hS hsub' hdB hx hpc (i4 _ _ (KK _ _ h7) n1 n2) i5 i6 i7 i3 (by omega) (by omega) (by rw [← hGn]; exact t2) t3 (Nat.le_refl _) (by omega) l8 l11 (by omega) i1 (by omega) (by omega) (by omega) n1 n2 n3
  rw [← hGe] at hround
  refine hround.imp ?_
  rintro o st' ⟨rfl, h2, f2, ov2, hj, j1, j2, j3, j4, j5, j6, j7⟩
  rw [hj]
  refine ⟨rfl, j1, fun _ => by simp only; omega, by simp only; omega, fun b o hb h1 h2 => ?_, ov2, j3, j4, j5⟩
  exact j7 b o (List.getElem?_eq_some_iff.1 hb).1 (i4 b o hb h1 h2) h1 h2
 ·exact ⟨by omega, fun h => absurd h (Nat.lt_irrefl _), Nat.le_refl _, fun b o hb _ _ => hb, emptyS, KK _ _ h8, KK _ _ h11, .inl ⟨rfl, rfl, rfl⟩⟩
end Go.Proofs.Ytjlkndkedknocaa
namespace Go.Ai
def SmallL (ws : List Int) : Prop := ∀ y ∈ ws, -1000 ≤ y ∧ y ≤ 1000
theorem SmallL.nth {ws : List Int} (h : SmallL ws) (i : Nat) : -1000 ≤ nth ws i ∧ nth ws i ≤ 1000 := by
 by_cases hi : i < ws.length
 ·exact h _ (nth_mem hi)
 ·rw [nth_ge (by omega)]; omega
theorem SmallL.app {a b : List Int} (h : SmallL a) (k : SmallL b) : SmallL (a ++ b) := fun y hy => by
 rcases List.mem_append.1 hy with h1 | h1
 ·exact h y h1
 ·exact k y h1
theorem SmallL.rep {n : Nat} {m : Int} (h : -1000 ≤ m ∧ m ≤ 1000) : SmallL (List.replicate n m) := fun y hy => by
 rw [List.mem_replicate] at hy
 rw [hy.2]; exact h
theorem OwnT.ints {h : List O} {lo : Nat} {v : Value} {ws : List Int} {el : TypeId} (ho : OwnT h lo v ws.length (intsC ws) el 1) (hs : SmallL ws) (hl : ws.length < 2 ^ 62) : Ints h v ws := by
 have h64 : ∀ i, I64 (Ai.nth ws i) := fun i => by have := hs.nth i; constructor <;> omega
 rcases ho with ⟨rfl, h1, h2⟩ | ho
 ·have : ws = [] := List.length_eq_zero_iff.1 h1
  subst this
  exact ⟨_, 0, 0, 0, rfl, fun h => absurd h (by simp), fun i hi => absurd hi (by simp), h64, hl⟩
 ·rcases ho.2 with ⟨rfl, h1⟩ | ⟨b, s, rfl, h1, h2, _⟩
  ·have : ws = [] := List.length_eq_zero_iff.1 h1
   subst this
   exact Ints.nil
  ·exact ⟨_, b, 0, _, rfl, fun _ => rfl, fun i hi => by rw [rd_def, h2, Nat.zero_add]; exact intsC_get hi, h64, hl⟩
end Go.Ai
namespace Go.Proofs.Ytjlkndkedknocaa
open Go Go.Ai
attribute [local instance] Classical.propDecidable
theorem wordT_small {G : Dg} (hG : GoodG G) {a : Nat} (ha : a < 2 * G.n) : ∀ i, SmallL (wordT G a i) := by
 intro i
 induction i with
 | zero => intro y hy; simp [wordT] at hy
 | succ i ih =>
  refine ih.app fun y hy => ?_
  unfold wordP at hy
  split at hy
  ·simp at hy
   obtain ⟨t0, t1, t2, t3, _⟩ := hG.T _ ((nx_perm hG).itr_lt ha i)
   have hg := gen_le hG t2 (show 1 < 4 by omega)
   have hc := arC_le G
   have hz := hG.size
   have e : (finT G (itr (nx G) a i)).1 = G.T (itr (nx G) a i) 2 := rfl
   rw [e] at hy
   rcases hG.sign _ t2 with h | h <;> rw [h] at hy <;> omega
  ·simp at hy
noncomputable def lonS (G : Dg) (k : Int) : Int := ownT G k (fstA G k).toNat (perA G (fstA G k).toNat)
noncomputable def lonD (G : Dg) (k : Int) : List Int := if 0 ≤ fstA G k then wordT G (fstA G k).toNat (perA G (fstA G k).toNat) ++ List.replicate (lonS G k).toNat (-(merD G k)) ++ List.replicate (-(lonS G k)).toNat (merD G k) else []
def LonP (h0 : List O) (ws : List Int) (v : Value) (st' : St) : Prop := Sub h0 st'.h ∧ h0.length ≤ st'.fl ∧ Ints st'.h v ws
structure LwI (h0 h : List O) (lo p8 p11 : Nat) (sm : Int) (ov : Value) (ws : List Int) : Prop where
 sub : Sub h0 h
 b8 : AtB h p8 (.cells [ov] 34 (some 0))
 b11 : AtB h p11 (.cells [.int .i64 sm] 3 (some 0))
 own : OwnT h lo ov ws.length (intsC ws) 3 1
 small : SmallL ws
 lo_ : lo ≤ h.length
theorem LwI.add {h0 h : List O} {lo p8 p11 : Nat} {sm sm' m : Int} {ov : Value} {ws : List Int} (hI : LwI h0 h lo p8 p11 sm ov ws) (hm : -1000 ≤ m ∧ m ≤ 1000) (l0 : h0.length ≤ p8) (l1 : h0.length ≤ p11) (l8 : p8 < lo) (l11 : p11 < lo) (hne : p8 ≠ p11) (hw : ws.length ≤ 10000) :
  ∃ b' H4, appendV 3 1 8 ov (.slice (some ⟨h.length, 0, none⟩) 1 1) ⟨h ++ [.cells [.int .i64 m] 3 (some 0)], h0.length⟩ = some (.slice (some ⟨b', 0, none⟩) (ws.length + 1) (ws.length + 1), ⟨H4, h0.length⟩) ∧
   H4[p8]? = some (.cells [ov] 34 (some 0)) ∧ H4[p11]? = some (.cells [.int .i64 sm] 3 (some 0)) ∧
   LwI h0 ((H4.set p8 (.cells [.slice (some ⟨b', 0, none⟩) (ws.length + 1) (ws.length + 1)] 34 (some 0))).set p11 (.cells [.int .i64 sm'] 3 (some 0))) lo p8 p11 sm' (.slice (some ⟨b', 0, none⟩) (ws.length + 1) (ws.length + 1)) (ws ++ [m]) := by
 have hread : readSlice (h ++ [.cells [.int .i64 m] 3 (some 0)]) 1 1 (some ⟨h.length, 0, none⟩) = some [.int .i64 m] := by simp [readSlice, rdN_at0]
 have hlo := hI.lo_
 obtain ⟨b', H4, f4, happ, hb', hown, hf1, hf2, hL4, K4⟩ := append_T (fl := h0.length) (c := 1) (bytes := 8) (hI.own.keep (h' := h ++ [.cells [.int .i64 m] 3 (some 0)]) fun b s _ _ e => app_of e _) hread (by simp) (by simp) (by simp; omega) (by simp only [roomMax]; omega) (by omega)
 obtain rfl : f4 = h0.length := by omega
 have k8 := K4 _ _ (app_of hI.b8 _) (.inl l8)
 have k11 := K4 _ _ (app_of hI.b11 _) (.inl l11)
 refine ⟨b', H4, happ, k8, k11, fun b o hb => ?_, set_ne (set_self k8) hne, set_self (set_ne k11 (Ne.symm hne)), ?_, hI.small.app (fun y hy => by simp at hy; rw [hy]; exact hm), by simp at hL4 ⊢; omega⟩
 ·have := (List.getElem?_eq_some_iff.1 hb).1
  exact set_ne (set_ne (K4 _ _ (app_of (hI.sub b o hb) _) (.inl (by omega))) (by omega)) (by omega)
 ·have : OwnT H4 lo (.slice (some ⟨b', 0, none⟩) (ws.length + 1) (ws.length + 1)) (ws ++ [m]).length (intsC (ws ++ [m])) 3 1 := by simpa [intsC] using hown
  exact this.keep fun b s e1 e2 e3 => set_ne (set_ne e3 (by omega)) (by omega)
variable {E : Env} (hE : OE E)
include hE
theorem longitude_ (hWk : ∀ (h : List O) (pl n : Nat) (x : Nat → Nat → Int) (s : Nat → Int) (L i : Int), LnkP h pl n x s L → Snd n x s L → DR E 148 [.pointer (some ⟨pl, 0, none⟩), .int .i64 i] ⟨h, h.length⟩ (.ret (walkV h)) ⟨walkM h pl i (dgOf n x s L), h.length⟩)
  {h0 : List O} {a : Option Addr} {n c : Nat} {x : Nat → Nat → Int} {s : Nat → Int} {L : Int} (hx : CrossP h0 a n x s) (k : Int) :
  DC E 70 [dV a n c L, .int .i64 k] ⟨h0, h0.length⟩ fun o st' => (kindD n x s L ≠ 0 ∧ o = .ret (.tuple #[.slice none 0 0, .int .i64 (kindD n x s L)]) ∧ st' = ⟨h0, h0.length⟩) ∨
   (kindD n x s L = 0 ∧ ¬ (0 ≤ k ∧ k < cpK (dgOf n x s L) + L) ∧ o = .ret (.tuple #[.slice none 0 0, .int .i64 1]) ∧ st' = ⟨h0, h0.length⟩) ∨
   (kindD n x s L = 0 ∧ (0 ≤ k ∧ k < cpK (dgOf n x s L) + L) ∧ ∃ v, o = .ret (.tuple #[v, .int .i64 0]) ∧ LonP h0 (lonD (dgOf n x s L) k) v st') := by
 refine hE.fnC (body := rb70) rfl ?_
 unfold rb70
 have hx1 : CrossP (h0 ++ [O.cells [.slice a n c, .int .i64 L] 24 (some 0), O.cells [.int .i64 k] 3 (some 0)]) a n x s := hx.ext (Ext.snoc _ _)
 have h1 := check_ hE (c := c) (L := L) hx1
 simp [dV] at h1
 by_cases hk : kindD n x s L = 0
 ·have h2 := newLinkC_ hE (c := c) hx1 hk
  simp [dV] at h2
  have hS := (kind_zero hk).1
  simp [dV, rdN_at0, joined_fl, DC_of h1, hk, List.append_assoc]
  refine h2.imp ?_
  rintro o ⟨h3, f3⟩ ⟨pl, rfl, hp, hf, hs, hl⟩
  simp only at hf hs hl
  have hs0 : Sub h0 h3 := ((Sub.refl h0).app _).trans hs
  have hd0 : h3[h0.length]? = some (O.cells [.slice a n c, .int .i64 L] 24 (some 0)) := hs _ _ (by rw [app_at0]; rfl)
  have hd1 : h3[h0.length + 1]? = some (O.cells [.int .i64 k] 3 (some 0)) := hs _ _ (by rw [app_at]; rfl)
  have hlen := hs.len
  simp at hlen
  have hl' := hl
  obtain ⟨uv, xa', xc', ab, cb, mb, z1, z2, z3, z4, z5, hO, hk'⟩ := hl'
  unfold linkC at z1
  have hd0' : ∀ l, (h3 ++ l)[h0.length]? = _ := fun l => app_of hd0 l
  have hd1' : ∀ l, (h3 ++ l)[h0.length + 1]? = _ := fun l => app_of hd1 l
  have z1' : ∀ l, (h3 ++ l)[pl]? = _ := fun l => app_of z1 l
  have hmin : min h0.length h3.length = h0.length := by omega
  by_cases c1 : 0 ≤ k ∧ k < cpK (dgOf n x s L) + L
  ·have c1' : ¬ k < 0 := by omega
   have c2' : ¬ (cpK (dgOf n x s L) : Int) + L ≤ k := by omega
   have b2 : one1 emptyS = true := rfl
   have b3 : emptyS.cells = #[emptyS] := rfl
   have hmin2 : min h0.length (h3.length + 1) = h0.length := by omega
   have hmin3 : min h0.length (h3.length + 2) = h0.length := by omega
   obtain ⟨G, hGe⟩ : ∃ G, G = dgOf n x s L := ⟨_, rfl⟩
   have hG : GoodG G := by rw [hGe]; exact good_of hS
   have hGn : G.n = n := by rw [hGe]; rfl
   have hfi := first_ hE (hl.sub ((Sub.refl h3).app [O.cells [.pointer (some ⟨pl, 0, none⟩)] 155 (some 0), .cells [emptyS] 34 (some 0)])) hS.size hS.loops c1
   simp at hfi
   rw [← hGe] at hfi ⊢
   have hfl := fstA_lt (G := G) (k := k)
   rw [hGn] at hfl
   simp [joined_fl, hf, wrN_at0, set_at0, hmin, rd_def, rd_at0, hd0', hd1', app_at0, z1', c1, c1', c2', wrN_at, set_at, b2, b3, hmin2, app_at, DC_of hfi, List.append_assoc]
   by_cases h0' : 0 ≤ fstA G k
   ·have h0'' : ¬ fstA G k < 0 := by omega
    obtain ⟨a0, ha0⟩ : ∃ a0 : Nat, fstA G k = a0 := ⟨(fstA G k).toNat, by omega⟩
    have ha0' : (fstA G k).toNat = a0 := by omega
    have ha0n : a0 < 2 * n := by omega
    have ha0z : ¬ ((a0 : Int) < 0) := by omega
    obtain ⟨H, hH⟩ : ∃ H, H = h3 ++ [O.cells [.pointer (some ⟨pl, 0, none⟩)] 155 (some 0), .cells [emptyS] 34 (some 0), .cells [.int .i64 0] 3 (some 0)] := ⟨_, rfl⟩
    have hlH : H.length = h3.length + 3 := by rw [hH]; simp
    have hsH : Sub h3 H := by rw [hH]; exact (Sub.refl _).app _
    have hwk := hWk H pl n x s L a0 (hl.sub hsH) hS
    have q7 : H[h3.length]? = some (.cells [.pointer (some ⟨pl, 0, none⟩)] 155 (some 0)) := by rw [hH, app_at0]; rfl
    have q8 : H[h3.length + 1]? = some (.cells [emptyS] 34 (some 0)) := by rw [hH, app_at]; rfl
    have q11 : H[h3.length + 2]? = some (.cells [.int .i64 0] 3 (some 0)) := by rw [hH, app_at]; rfl
    have hwr : wrN H (h3.length + 2) 0 [Value.int .i64 0] = some H := by
     rw [wrN_def, q11]
     simp [set_same q11]
    have hrd7 : rd H h3.length 0 = some (.pointer (some ⟨pl, 0, none⟩)) := by rw [rd_def, q7]; rfl
    simp [h0', h0'', ha0z, hwr, hrd7, wrN_at, set_at, app_at, app_at0, hmin3, ha0, ← hH, DC_of hwk, q7]
    obtain ⟨M, hM⟩ : ∃ M, M = walkM H pl a0 (dgOf n x s L) := ⟨_, rfl⟩
    have hsM : Sub H M := by rw [hM]; unfold walkM; rw [List.append_assoc]; exact (Sub.refl _).app _
    have hlM : H.length + 4 < M.length := by rw [hM]; simp [walkM]; omega
    have m0 : M[H.length]? = some (.cells [.pointer (some ⟨pl, 0, none⟩)] 155 (some 0)) := by rw [hM]; unfold walkM; rw [List.append_assoc, app_at0]; rfl
    have m1 : M[H.length + 1]? = some (.cells [.int .i64 a0] 3 (some 0)) := by rw [hM]; unfold walkM; rw [List.append_assoc, app_at]; rfl
    have m2 : M[H.length + 2]? = some (.cells (cellsL (finL (dgOf n x s L))) 72 (some 0)) := by rw [hM]; unfold walkM; rw [List.append_assoc, app_at]; rfl
    have m3 : M[H.length + 3]? = some (.cells [.slice (some ⟨H.length + 2, 0, none⟩) (2 * n) (2 * n)] 215 (some 0)) := by rw [hM]; unfold walkM; rw [List.append_assoc, app_at]; rfl
    rw [← hM]
    refine rangeL_ hE (hL := h3) (pl := pl) (n := n) (dB := h0.length) (pc := h0.length + 1) (p7 := h3.length) (p8 := h3.length + 1) (p11 := h3.length + 2) (pf := H.length + 1) (pe := H.length + 3) (pL := H.length) (eb := H.length + 2) (a0 := a0) (comp := k) (ov := emptyS)
     (by simp [walkV]) (by simp) (by simp) (by simp) (by simp) (by simp) hl hS (hsH.trans hsM) hd0 (hx1.sub hs) hd1 (hsM _ _ q7) (hsM _ _ q8) (hsM _ _ q11) ha0n m1 m3 m2 m0 (by omega) (by omega) (by omega) (by omega) (by omega) (by omega) (by omega) ?_
    intro h' ov' hkeep r8 r11 hown
    rw [← hGe] at hown r11
    have hS0 : lonS G k = ownT G k a0 (perA G a0) := by unfold lonS; rw [ha0']
    have haG : a0 < 2 * G.n := by rw [hGn]; exact ha0n
    have hmer : merD G k = arN G a0 + 1 := by unfold merD; rw [if_pos h0', ha0']
    have hsz := hS.size
    have hml := arN_lt haG
    have hac := arC_le G
    rw [hGn] at hac
    have hper := (perA_spec hG haG).1.2.2
    rw [hGn] at hper
    have hSb := ownT_le hG (k := k) haG (perA G a0)
    rw [← hS0] at hSb r11
    have hmb : -1000 ≤ merD G k ∧ merD G k ≤ 1000 := by rw [hmer]; omega
    obtain ⟨m, hme⟩ : ∃ m, m = merD G k := ⟨_, rfl⟩
    obtain ⟨S, hSe⟩ : ∃ S, S = lonS G k := ⟨_, rfl⟩
    rw [← hSe] at hSb r11
    rw [← hme] at hmb ⊢
    have hsub0 : Sub h0 h' := fun b o hb => by
     have := (List.getElem?_eq_some_iff.1 hb).1
     exact hkeep b o (hsM _ _ (hsH _ _ (hs0 b o hb))) (by omega) (by omega)
    have hwl := wordT_len G a0 (perA G a0)
    obtain ⟨W, hW⟩ : ∃ W, W = wordT G a0 (perA G a0) := ⟨_, rfl⟩
    have hWs : SmallL W := by rw [hW]; exact wordT_small hG haG _
    rw [← hW] at hown hwl
    have hlon : lonD G k = W ++ List.replicate S.toNat (-m) ++ List.replicate (-S).toNat m := by
     unfold lonD; rw [if_pos h0', ha0', ← hW, ← hSe, ← hme]
    have hMl : M.length ≤ h'.length := by
     have hk2 : Sub (M.take (h3.length + 1)) h' := fun b o hb => by
      have hbl := (List.getElem?_eq_some_iff.1 hb).1
      rw [List.getElem?_take] at hb
      split at hb
      ·exact hkeep b o hb (by omega) (by omega)
      ·cases hb
     apply Classical.byContradiction
     intro hcon
     have hlast : M[M.length - 1]? = some M[M.length - 1] := List.getElem?_eq_getElem (by omega)
     have := (List.getElem?_eq_some_iff.1 (hkeep _ _ hlast (by omega) (by omega))).1
     omega
    have hI0 : LwI h0 h' M.length (h3.length + 1) (h3.length + 2) S ov' W := ⟨hsub0, r8, r11, hown, hWs, hMl⟩
    have l8 : h3.length + 1 < M.length := by omega
    have l11 : h3.length + 2 < M.length := by omega
    have hmn1 : min h0.length (h3.length + 1) = h0.length := by omega
    have hmn2 : min h0.length (h3.length + 2) = h0.length := by omega
    simp
    refine DW_loop (fun kk fr st => ∃ (sm : Int) (h : List O) (ov : Value) (ws : List Int), kk = sm.toNat ∧ st = ⟨h, h0.length⟩ ∧ LwI h0 h M.length (h3.length + 1) (h3.length + 2) sm ov ws ∧ sm ≤ 400 ∧ (S < 0 → sm = S) ∧ (0 ≤ S → 0 ≤ sm) ∧ ws.length + sm.toNat ≤ 1000 ∧ ws ++ List.replicate sm.toNat (-m) = W ++ List.replicate S.toNat (-m) ∧
     get fr 8 = .pointer (some ⟨h3.length + 1, 0, none⟩) ∧ get fr 10 = .int .i64 m ∧ get fr 11 = .pointer (some ⟨h3.length + 2, 0, none⟩)) ?_ (k := S.toNat) ?_
    ·rintro kk fr st ⟨sm, h, ov, ws, rfl, rfl, hI, hs4, hs1, hs2, hwsl, heq, g8, g10, g11⟩
     have r8 := hI.b8
     have r11 := hI.b11
     unfold AtB at r8 r11
     by_cases hpos : 0 < sm
     ·have hwn : IntKind.i64.wrap (-m) = -m := by rw [w64_id] <;> omega
      have hws : IntKind.i64.wrap (sm - 1) = sm - 1 := by rw [w64_id] <;> omega
      obtain ⟨b', H4, happ, k8, k11, hI4⟩ := hI.add (m := -m) (sm' := sm - 1) (by omega) (by omega) (by omega) l8 l11 (by omega) (by omega)
      have k11' : ∀ o, (H4.set (h3.length + 1) o)[h3.length + 2]? = some (.cells [.int .i64 sm] 3 (some 0)) := fun o => set_ne k11 (by omega)
      simp [g8, g10, g11, rd_def, r8, r11, hpos, hwn, happ, wrN_def, k8, k11', hws, hmn1, hmn2, -List.length_append]
      refine ⟨(sm - 1).toNat, by omega, sm - 1, rfl, _, ws ++ [-m], hI4, by omega, by omega, by omega, by simp; omega, ?_⟩
      rw [← heq, List.append_assoc]
      congr 1
      rw [show sm.toNat = (sm - 1).toNat + 1 by omega]
      rfl
     ·simp [g8, g10, g11, rd_def, r8, r11, hpos]
      have hsz0 : sm.toNat = 0 := by omega
      rw [hsz0] at heq
      simp at heq
      refine DW_loop (fun kk fr st => ∃ (sm : Int) (h : List O) (ov : Value) (ws : List Int), kk = (-sm).toNat ∧ st = ⟨h, h0.length⟩ ∧ LwI h0 h M.length (h3.length + 1) (h3.length + 2) sm ov ws ∧ -400 ≤ sm ∧ sm ≤ 0 ∧ ws.length + (-sm).toNat ≤ 2000 ∧ ws ++ List.replicate (-sm).toNat m = W ++ List.replicate S.toNat (-m) ++ List.replicate (-S).toNat m ∧
       get fr 8 = .pointer (some ⟨h3.length + 1, 0, none⟩) ∧ get fr 10 = .int .i64 m ∧ get fr 11 = .pointer (some ⟨h3.length + 2, 0, none⟩)) ?_ (k := (-sm).toNat) ?_
      ·clear hI hs4 hs1 hs2 hwsl heq g8 g10 g11 r8 r11 hpos hsz0
       clear sm h ov ws
       rintro kk fr st ⟨sm, h, ov, ws, rfl, rfl, hI, hs4, hs1, hwsl, heq, g8, g10, g11⟩
       have r8 := hI.b8
       have r11 := hI.b11
       unfold AtB at r8 r11
       by_cases hneg : sm < 0
       ·have hws : IntKind.i64.wrap (sm + 1) = sm + 1 := by rw [w64_id] <;> omega
        obtain ⟨b', H4, happ, k8, k11, hI4⟩ := hI.add (m := m) (sm' := sm + 1) (by omega) (by omega) (by omega) l8 l11 (by omega) (by omega)
        have k11' : ∀ o, (H4.set (h3.length + 1) o)[h3.length + 2]? = some (.cells [.int .i64 sm] 3 (some 0)) := fun o => set_ne k11 (by omega)
        simp [g8, g10, g11, rd_def, r8, r11, hneg, happ, wrN_def, k8, k11', hws, hmn1, hmn2, -List.length_append]
        refine ⟨(-(sm + 1)).toNat, by omega, sm + 1, rfl, _, ws ++ [m], hI4, by omega, by omega, by simp; omega, ?_⟩
        rw [← List.append_assoc, ← heq, List.append_assoc]
        congr 1
        rw [show (-sm).toNat = (-(sm + 1)).toNat + 1 by omega]
        rfl
       ·have hsz0 : (-sm).toNat = 0 := by omega
        rw [hsz0] at heq
        simp at heq
        simp [g8, g10, g11, rd_def, r8, r11, hneg, endK_ret]
        unfold pairQ back
        rw [hlon, List.append_assoc, ← heq]
        have hints := hI.own.ints hI.small (by omega)
        split
        ·rename_i hc
         have hflv : flat ov = true := by
          obtain ⟨va, hva, _⟩ := hI.own.look
          rw [hva] at hc ⊢
          simp [Out.scalar, scalar, flat1] at hc
          first | exact hc.1 | exact hc
         exact .inr ⟨by rw [hGe]; exact c1.2, ov, rfl, Sub.refl _, Nat.le_refl _, hints.flat hflv⟩
        ·exact .inr ⟨by rw [hGe]; exact c1.2, ov, rfl, hI.sub, Nat.le_refl _, hints⟩
      ·refine ⟨sm, h, ov, ws, rfl, rfl, hI, by omega, by omega, by omega, ?_, by simp [g8, g10, g11]⟩
       rw [heq]
       congr 2
       omega
    ·exact ⟨S, h', ov', W, rfl, rfl, hI0, by omega, fun _ => rfl, fun h => h, by omega, rfl, by simp [hme]⟩
   ·have hf1 : fstA G k < 0 := by omega
    have hln : lonD G k = [] := if_neg h0'
    simp [h0', hf1, hk, rd_at, endK_ret, rdO, app_at]
    have hfe : (Out.ret (.tuple #[emptyS, .int .i64 0])).scalar = true := rfl
    unfold pairQ
    rw [back_scalar hfe (Nat.le_refl _), hln]
    exact .inr ⟨by rw [hGe]; exact c1.2, emptyS, rfl, Sub.refl _, Nat.le_refl _, _, 0, 0, 0, rfl, fun h => absurd h (by simp), fun i hi => absurd hi (by simp), fun i => by simp [nth, I64], by simp⟩
  ·by_cases d1 : 0 ≤ k
   ·have d1' : ¬ k < 0 := by omega
    have d2' : (cpK (dgOf n x s L) : Int) + L ≤ k := by omega
    have c1' : ¬ (k < cpK (dgOf n x s L) + L) := by omega
    simp [joined_fl, hf, wrN_at0, set_at0, hmin, rd_def, rd_at0, hd0', hd1', app_at0, z1', d1, d1', d2', c1', endK_ret, back_scalar, Out.scalar, scalar, flat1, flat]
   ·have d1' : k < 0 := by omega
    simp [joined_fl, hf, wrN_at0, set_at0, hmin, rd_def, rd_at0, hd0', hd1', app_at0, z1', d1, d1', endK_ret, back_scalar, Out.scalar, scalar, flat1, flat]
 ·simp [dV, rdN_at0, joined_fl, DC_of h1, hk, endK_ret, back_scalar, Out.scalar, scalar, flat1, flat]
end Go.Proofs.Ytjlkndkedknocaa
namespace Go.Proofs.Ytjlkndkedknocaa
open Go Go.Ai
noncomputable def GT : Dg := dgOf 3 xT sT 0
theorem GT_good : GoodG GT := good_of (kind_zero kind_T).1
theorem GT_X (i j : Nat) : GT.X i j = (xT i j).toNat := rfl
def outT : List (Nat × Nat) := [(1, 2), (0, 1), (2, 2), (1, 1), (0, 2), (2, 1)]
def inT : List (Nat × Nat) := [(0, 3), (2, 0), (1, 3), (0, 0), (2, 3), (1, 0)]
theorem in_T : ∀ c, c < 3 → ∀ q, q < 4 → outB 1 q = false → inT.getD (xT c q).toNat (0, 0) = (c, q) := by decide
theorem GT_in {a : Nat} (ha : a < 6) : finT GT a = inT.getD a (0, 0) := by
 obtain ⟨t0, t1, t2, t3, x1, x2, _⟩ := GT_good.T a ha
 obtain ⟨d1, d2⟩ := GT_good.dir a ha
 have := in_T (GT.T a 2) t2 (GT.T a 3) t3 d2
 rw [← GT_X, x2] at this
 exact this.symm
theorem GT_nx {a : Nat} (ha : a < 6) : nx GT a = (a + 1) % 6 := by
 have h := GT_in ha
 unfold finT at h
 have h1 := congrArg Prod.fst h
 have h2 := congrArg Prod.snd h
 simp only at h1 h2
 unfold nx
 rw [h1, h2, GT_X]
 match a, ha with
 | 0, _ => rfl
 | 1, _ => rfl
 | 2, _ => rfl
 | 3, _ => rfl
 | 4, _ => rfl
 | 5, _ => rfl
theorem GT_itr {a : Nat} (ha : a < 6) : ∀ t, itr (nx GT) a t = (a + t) % 6 := by
 intro t
 induction t with
 | zero => simp only [itr]; omega
 | succ t ih =>
  simp only [itr]
  rw [ih, GT_nx (by omega)]
  omega
theorem GT_orb : OrbI 6 (nx GT) 6 1 [0, 0, 0, 0, 0, 0] := by
 have h0 : ∀ j, j < 6 → nth [0, 0, 0, 0, 0, 0] j = 0 := by decide
 refine ⟨rfl, fun j hj => .inr ⟨by rw [h0 j hj]; exact Int.le_refl _, by rw [h0 j hj]; decide⟩, fun j hj => by rw [h0 j hj]; exact Int.le_refl _, fun a b ha hb _ => ⟨fun _ => ⟨b + 6 - a, ?_⟩, fun _ => by rw [h0 a ha, h0 b hb]⟩, fun j hj => ⟨0, by omega, by rw [h0 0 (by omega)]; omega, fun b hb => by omega⟩⟩
 rw [GT_itr ha]
 omega
theorem GT_cp : cpL GT = [0, 0, 0, 0, 0, 0] ∧ cpK GT = 1 := by
 obtain ⟨h1, h2⟩ := cp_eq (G := GT) GT_orb
 exact ⟨h1.symm, h2.symm⟩
theorem GT_per : perA GT 0 = 6 := by
 obtain ⟨⟨h1, h2, h3⟩, h4⟩ := perA_spec GT_good (show 0 < 2 * GT.n by decide)
 rw [GT_itr (by omega)] at h2
 have h5 : 2 * GT.n = 6 := rfl
 omega
theorem GT_arR : ∀ a, a < 6 → arR GT a = a / 2 * 2 := by
 intro a ha
 match a, ha with
 | 0, _ => rfl
 | 1, _ => rfl
 | 2, _ => rfl
 | 3, _ => rfl
 | 4, _ => rfl
 | 5, _ => rfl
theorem GT_cnt : ∀ i, i ≤ 6 → cntR (arR GT) i = (i + 1) / 2 := by
 intro i
 induction i with
 | zero => intro _; rfl
 | succ i ih =>
  intro hi
  rw [cntR_succ, ih (by omega), GT_arR i (by omega)]
  split <;> omega
theorem GT_arN {a : Nat} (ha : a < 6) : arN GT a = a / 2 := by
 unfold arN
 rw [GT_arR a ha, GT_cnt _ (by omega)]
 omega
theorem GT_arC : arC GT = 3 := GT_cnt 6 (by omega)
theorem GT_gen {c q : Nat} (hc : c < 3) (hq : q < 4) : gen GT (GT.X c q) = ((xT c q).toNat / 2 : Nat) + 1 := by
 unfold gen
 rw [GT_arN (GT_good.X c q hc hq)]
 rfl
def relsT : List (List Int) := [[-1, 2, 1, -3], [-2, 3, 2, -1], [-3, 1, 3, -2]]
theorem GT_rel : relL GT = relsT := by
 have h : ∀ i, i < 3 → relOf GT i = nthR relsT i := fun i hi => by
  unfold relOf
  rw [GT_gen hi (by omega), GT_gen hi (by omega), GT_gen hi (by omega)]
  match i, hi with
  | 0, _ => rfl
  | 1, _ => rfl
  | 2, _ => rfl
 show [relOf GT 0, relOf GT 1, relOf GT 2] = relsT
 rw [h 0 (by omega), h 1 (by omega), h 2 (by omega)]
 rfl
theorem GT_word {c q : Nat} (hc : c < 3) (hq : q < 4) : wordP GT (c, q) = if q = 0 then [(((xT c 1).toNat / 2 : Nat) : Int) + 1] else [] := by
 unfold wordP
 split
 ·rw [GT_gen hc (by omega)]
  show [_ * (1 : Int)] = _
  rw [Int.mul_one]
 ·rfl
theorem GT_own {c q : Nat} (hc : c < 3) (hq : q < 4) : ownP GT 0 (c, q) = if q = 0 then 1 else 0 := by
 unfold ownP
 rw [GT_cp.1]
 have h0 : nth [0, 0, 0, 0, 0, 0] (GT.X c 1) = 0 := by
  have h := GT_good.X c 1 hc (by omega)
  have hj : ∀ j, j < 6 → nth [0, 0, 0, 0, 0, 0] j = 0 := by decide
  exact hj _ h
 simp only [h0, and_true]
 rfl
theorem GT_lon : lonD GT 0 = [3, 1, 2, -1, -1, -1] := by
 have hf : fstA GT 0 = 0 := by
  unfold fstA
  exact firstI_found (i := 0) (by decide) (by rw [GT_cp.1]; rfl) (fun j hj => by omega)
 have hi : ∀ t, t < 6 → finT GT (itr (nx GT) 0 t) = inT.getD t (0, 0) := fun t ht => by
  rw [GT_itr (by omega), Nat.zero_add, Nat.mod_eq_of_lt ht, GT_in ht]
 have hw : wordT GT 0 6 = [3, 1, 2] := by
  simp only [wordT]
  rw [hi 0 (by omega), hi 1 (by omega), hi 2 (by omega), hi 3 (by omega), hi 4 (by omega), hi 5 (by omega)]
  show ((((([] ++ wordP GT (0, 3)) ++ wordP GT (2, 0)) ++ wordP GT (1, 3)) ++ wordP GT (0, 0)) ++ wordP GT (2, 3)) ++ wordP GT (1, 0) = _
  rw [GT_word (by omega) (by omega), GT_word (by omega) (by omega), GT_word (by omega) (by omega), GT_word (by omega) (by omega), GT_word (by omega) (by omega), GT_word (by omega) (by omega)]
  rfl
 have ho : lonS GT 0 = 3 := by
  unfold lonS
  rw [hf]
  show ownT GT 0 0 (perA GT 0) = 3
  rw [GT_per]
  simp only [ownT]
  rw [hi 0 (by omega), hi 1 (by omega), hi 2 (by omega), hi 3 (by omega), hi 4 (by omega), hi 5 (by omega)]
  show (((((0 + ownP GT 0 (0, 3)) + ownP GT 0 (2, 0)) + ownP GT 0 (1, 3)) + ownP GT 0 (0, 0)) + ownP GT 0 (2, 3)) + ownP GT 0 (1, 0) = 3
  rw [GT_own (by omega) (by omega), GT_own (by omega) (by omega), GT_own (by omega) (by omega), GT_own (by omega) (by omega), GT_own (by omega) (by omega), GT_own (by omega) (by omega)]
  rfl
 have hm : merD GT 0 = 1 := by
  unfold merD
  rw [hf]
  show (if (0 : Int) ≤ 0 then ((arN GT 0 : Nat) : Int) + 1 else _) = 1
  rw [GT_arN (by omega)]
  rfl
 unfold lonD
 rw [hf, ho, hm]
 show (if (0 : Int) ≤ 0 then wordT GT 0 (perA GT 0) ++ List.replicate 3 (-1) ++ List.replicate 0 1 else []) = _
 rw [GT_per, hw]
 rfl
end Go.Proofs.Ytjlkndkedknocaa
namespace Go.Proofs.Ytjlkndkedknocaa
open Go Go.Ai
def trivB (A B : List (List Int)) (w : List Int) (n : Nat) : Bool := (List.range n).all fun i => actW A B w i == (i : Int)
theorem trivB_eq {A B : List (List Int)} {w : List Int} {n : Nat} : trivB A B w n = true ↔ TrivL A B w n := by
 unfold trivB TrivL
 rw [List.all_eq_true]
 exact ⟨fun h i hi => by simpa using h i (List.mem_range.2 hi), fun h i hi => by simpa using h i (List.mem_range.1 hi)⟩
def goodB (n : Nat) (rels A : List (List Int)) : Bool := (List.range (readyL rels A.length).length).all fun i => trivB A (A.map invL) (nthR (readyL rels A.length) i) n
theorem goodB_eq {n : Nat} {rels A : List (List Int)} : goodB n rels A = true ↔ GoodA n rels A := by
 unfold goodB GoodA
 rw [List.all_eq_true]
 exact ⟨fun h i hi => trivB_eq.1 (h i (List.mem_range.2 hi)), fun h i hi => trivB_eq.2 (h i (List.mem_range.1 hi))⟩
def cntB (n : Nat) (P rels : List (List Int)) : Nat → List (List Int) → Nat
 | 0, _ => 1
 | m + 1, im => sumNat (fun q => bif goodB n rels (im ++ [nthR P q]) then cntB n P rels m (im ++ [nthR P q]) else 0) P.length
theorem cntB_eq (n : Nat) (P rels : List (List Int)) : ∀ m im, cntV n P rels m im = cntB n P rels m im := by
 intro m
 induction m with
 | zero => intro im; rfl
 | succ m ih =>
  intro im
  simp only [cntV, cntB]
  congr 1
  funext q
  rw [ih]
  by_cases h : GoodA n rels (im ++ [nthR P q])
  ·rw [if_pos h, goodB_eq.2 h]; rfl
  ·rw [if_neg h]
   have : goodB n rels (im ++ [nthR P q]) = false := by
    cases hb : goodB n rels (im ++ [nthR P q]) with
    | true => exact absurd (goodB_eq.1 hb) h
    | false => rfl
   rw [this]; rfl
set_option maxRecDepth 100000 in
theorem cnt_T : cntB 3 (permL 3) relsT 3 [] = 12 := by kernel_rfl
theorem count_T : countA 3 xT sT 0 3 = (12, 0) := by
 have hP : (permL 3).length = 6 := by decide
 have hg : genN GT = 3 := by unfold genN; rw [GT_arC]; rfl
 have hF : FewA (permL 3).length (genN (dgOf 3 xT sT 0)) := by
  show FewA (permL 3).length (genN GT)
  rw [hP, hg]
  intro i hi
  match i, hi with
  | 0, _ => decide
  | 1, _ => decide
  | 2, _ => decide
 unfold countA
 rw [if_neg (by simp [kind_T]), if_neg (by decide), if_neg (fun h => h hF)]
 show ((cntV 3 (permL 3) (relL GT) (genN GT) [] : Int), (0 : Int)) = (12, 0)
 rw [hg, GT_rel, cntB_eq, cnt_T]
 rfl
end Go.Proofs.Ytjlkndkedknocaa
namespace Go.Proofs.Ytjlkndkedknocaa
open Go Go.Ai
attribute [local instance] Classical.propDecidable
structure WE (E : Env) : Prop where
 oe : OE E
 kept : SumsKept E
 walk : ∀ (h : List O) (pl n : Nat) (x : Nat → Nat → Int) (s : Nat → Int) (L i : Int), LnkP h pl n x s L → Snd n x s L → DR E 148 [.pointer (some ⟨pl, 0, none⟩), .int .i64 i] ⟨h, h.length⟩ (.ret (walkV h)) ⟨walkM h pl i (dgOf n x s L), h.length⟩
noncomputable def E1 : Env := withK E0 4 148
theorem walk_callable : Callable Try.prog 148 := callableB_ok (by kernel_rfl)
theorem E1_ok (B : Nat) : EnvOk Fence.wide Try.prog B E1 := withK_ok follows E0_ok E0_kept walk_callable B
theorem E1_WE : WE E1 := ⟨E0_OE.sum148, withK_kept E0_kept, fun h pl n x s L i hl hS => by
 refine withK_DR (walk_ E0_OE (E0_S _) hl hS i) ⟨Nat.le_refl _, ?_, fun id h1 _ => ?_⟩
 ·simp only [walkM]; simp
 ·simp only [walkM]
  rw [List.append_assoc]
  exact List.getElem?_append_left h1⟩
theorem ints_at {h : List O} {v : Value} {xs : List Int} (hx : Ints h v xs) : ∃ a b o c, v = .slice a xs.length c ∧ (0 < xs.length → a = some ⟨b, o, none⟩) ∧ (∀ i, i < xs.length → rdO h[b]? (o + i) = some (.int .i64 (nth xs i))) ∧ xs.length < 2 ^ 62 := by
 obtain ⟨a, b, o, c, h1, h2, h3, h4, h5⟩ := hx
 exact ⟨a, b, o, c, h1, h2, fun i hi => by rw [← rd_def]; exact h3 i hi, h5⟩
variable {E : Env} (hE : OE E)
include hE
theorem sameI_ {h : List O} {va vb : Value} {xs ys : List Int} (hx : Ints h va xs) (hy : Ints h vb ys) :
  DR E 76 [va, vb] ⟨h, h.length⟩ (.ret (.bool (decide (xs = ys)))) ⟨h, h.length⟩ := by
 refine hE.fn (body := rb76) rfl ?_
 unfold rb76
 obtain ⟨xa, xb, xo, xc, rfl, ha, hxr, hxl⟩ := ints_at hx
 obtain ⟨ya, yb, yo, yc, rfl, hb, hyr, hyl⟩ := ints_at hy
 have hsc : ∀ b : Bool, (Out.ret (.bool b)).scalar = true := fun _ => rfl
 by_cases hl : xs.length = ys.length
 ·have hl' : (xs.length : Int) = ys.length := by omega
  simp [hl']
  refine DW_loop (fun kk fr st => ∃ (i : Nat), i + kk = ys.length ∧ st = ⟨h, h.length⟩ ∧ (∀ j, j < i → nth xs j = nth ys j) ∧ get fr 0 = .slice xa xs.length xc ∧ get fr 1 = .slice ya ys.length yc ∧ get fr 12 = .int .i64 ys.length ∧ get fr 13 = .int .i64 i) ?_ (k := ys.length) ?_
  ·rintro kk fr st ⟨i, hik, rfl, hd, g0, g1, g12, g13⟩
   by_cases hi : i < ys.length
   ·have hw : IntKind.i64.wrap ((i : Int) + 1) = (i : Int) + 1 := by rw [w64_id] <;> omega
    have hi' : i < xs.length := by omega
    obtain rfl := ha (by omega)
    obtain rfl := hb (by omega)
    by_cases he : nth xs i = nth ys i
    ·simp [g0, g1, g12, g13, hi, hi', hl, rd_def, hxr i hi', hyr i hi, he, hw]
     refine ⟨kk - 1, by omega, i + 1, by omega, fun j hj => ?_, by omega⟩
     by_cases e : j = i
     ·rw [e]; exact he
     ·exact hd j (by omega)
    ·have hne : ¬ xs = ys := fun e => he (by rw [e])
     simp [g0, g1, g12, g13, hi, hi', hl, rd_def, hxr i hi', hyr i hi, he, hne, endK_ret, back, hsc]
   ·obtain rfl : i = ys.length := by omega
    have heq : xs = ys := by
     apply List.ext_getElem hl
     intro j h1 h2
     rw [← nth_eq h1, ← nth_eq h2]
     exact hd j h2
    simp [g0, g1, g12, g13, heq, endK_ret, back, hsc]
  ·exact ⟨0, by omega, rfl, fun j hj => by omega, by simp [hl]⟩
 ·have hl' : ¬ (xs.length : Int) = ys.length := by omega
  have hne : ¬ xs = ys := fun e => hl (by rw [e])
  simp [hl, hl', hne, endK_ret, back, hsc]
end Go.Proofs.Ytjlkndkedknocaa
namespace Go.Proofs.Ytjlkndkedknocaa
open Go Go.Ai
attribute [local instance] Classical.propDecidable
theorem saneW_ {E : Env} (hW : WE E) {h0 : List O} : DR E 56 [] ⟨h0, h0.length⟩ (.ret (.bool true)) ⟨h0, h0.length⟩ := by
 have hE := hW.oe
 refine hE.fn (body := rb56) rfl ?_
 unfold rb56
 have hp := parse_ hE kind_T (h0 := h0)
 unfold textB at hp
 simp
 refine hp.imp ?_
 rintro o ⟨h1, f1⟩ ⟨a, c, rfl, s1, hf1, hx⟩
 simp only at s1 hf1 hx
 have hx2 : CrossP (h1 ++ [O.cells [.slice a 3 c, .int .i64 0] 24 (some 0)]) a 3 xT sT := hx.ext (Ext.snoc _ _)
 have hc := countW_ hE hW.kept (c := c) (L := 0) (k := 3) hx2
 rw [count_T] at hc
 simp [dV] at hc
 have hl := longitude_ hE hW.walk (c := c) (L := 0) hx2 0
 simp [dV, kind_T] at hl
 have hone : ∀ n, one1 (.slice a n c) = true := fun _ => rfl
 simp [joined_fl, hf1, dV, wrN_at0, set_at0, rdN_at0, DC_of hc]
 refine hl.imp ?_
 rintro o ⟨h2, f2⟩ hq
 have hcp : cpK (dgOf 3 xT sT 0) = 1 := GT_cp.2
 rw [hcp] at hq
 simp at hq
 obtain ⟨v, rfl, s2, hf2, hI⟩ := hq
 simp only at s2 hf2 hI
 have hlon : lonD (dgOf 3 xT sT 0) 0 = [3, 1, 2, -1, -1, -1] := GT_lon
 rw [hlon] at hI
 simp at hf2
 have s02 : h1.length + 1 ≤ h2.length := by
  have h0 : (h1 ++ [O.cells [.slice a 3 c, .int .i64 0] 24 (some 0)])[h1.length]? = some (O.cells [.slice a 3 c, .int .i64 0] 24 (some 0)) := by rw [app_at0]; rfl
  have := (List.getElem?_eq_some_iff.1 (s2 _ _ h0)).1
  omega
 have hl1 := s1.len
 have hmn : min h0.length h1.length = h0.length := by omega
 have hI2 := hI.ext (Ext.snoc h2 [O.cells (intsC [3, 1, 2, -1, -1, -1]) 3 (some 0)])
 have hJ : Ints (h2 ++ [O.cells (intsC [3, 1, 2, -1, -1, -1]) 3 (some 0)]) (.slice (some ⟨h2.length, 0, none⟩) 6 6) [3, 1, 2, -1, -1, -1] := by
  refine ⟨_, h2.length, 0, 6, rfl, fun _ => rfl, fun i hi => ?_, fun i => ?_, by decide⟩
  ·rw [rd_def, app_at0]
   match i, hi with
   | 0, _ => rfl
   | 1, _ => rfl
   | 2, _ => rfl
   | 3, _ => rfl
   | 4, _ => rfl
   | 5, _ => rfl
  ·match i with
   | 0 => decide
   | 1 => decide
   | 2 => decide
   | 3 => decide
   | 4 => decide
   | 5 => decide
   | i + 6 => rw [nth_ge (by simp)]; decide
 have hs := sameI_ hE hI2 hJ
 rw [decide_eq_true rfl] at hs
 simp [intsC] at hs
 simp [joined_fl, hf2, hmn, DC_of hs, endK_ret, back]
 rw [if_pos (show (Out.ret (Value.bool true)).scalar = true from rfl)]
 exact ⟨rfl, rfl⟩
end Go.Proofs.Ytjlkndkedknocaa
namespace Go.Ai
end Go.Ai
namespace Go.Proofs.Ytjlkndkedknocaa
open Go Go.Ai
attribute [local instance] Classical.propDecidable
theorem mat_at {h : List O} {v : Value} {A : List (List Int)} (hm : Mat h v A) : ∃ a b o c, ∃ vs : Nat → Value, v = .slice a A.length c ∧ (0 < A.length → a = some ⟨b, o, none⟩) ∧ (∀ i, i < A.length → rdO h[b]? (o + i) = some (vs i) ∧ Ints h (vs i) (nthR A i)) ∧ A.length < 2 ^ 62 := by
 obtain ⟨a, b, o, c, vs, h1, h2, h3, h4⟩ := hm
 exact ⟨a, b, o, c, vs, h1, h2, fun i hi => ⟨by rw [← rd_def]; exact (h3 i hi).1, (h3 i hi).2⟩, h4⟩
variable {E : Env} (hE : OE E)
include hE
end Go.Proofs.Ytjlkndkedknocaa
namespace Go.Proofs.Ytjlkndkedknocaa
open Go Go.Ai
attribute [local instance] Classical.propDecidable
def CpI (h : List O) (lo : Nat) (A : List (List Int)) (i : Nat) (vs : List Value) : Prop :=
 ∀ q, q < i → ∃ w, vs[q]? = some w ∧ ((nthR A q = [] ∧ w = .slice none 0 0) ∨ ∃ b, w = .slice (some ⟨b, 0, none⟩) (nthR A q).length (nthR A q).length ∧ lo ≤ b ∧ h[b]? = some (.cells (intsC (nthR A q)) 3 (some 1)))
theorem CpI.mat {h : List O} {lo : Nat} {A : List (List Int)} {vs : List Value} {v : Value} (hI : CpI h lo A A.length vs) (hu : OwnS h lo v A.length vs 34 1) (hA : A.length < 2 ^ 62) (hb : ∀ q, q < A.length → (∀ i, I64 (nth (nthR A q) i)) ∧ (nthR A q).length < 2 ^ 62) : Mat h v A := by
 obtain ⟨h1, h2⟩ := hu
 rcases h2 with ⟨rfl, h0⟩ | ⟨b, s, rfl, hbl, hc, _⟩
 ·have : A = [] := List.length_eq_zero_iff.1 h0
  subst this
  exact ⟨none, 0, 0, 0, fun _ => undef, rfl, fun h => absurd h (by simp), fun i hi => absurd hi (by simp), by simp⟩
 ·refine ⟨_, b, 0, A.length, fun q => (vs[q]?).getD undef, rfl, fun _ => rfl, fun q hq => ?_, hA⟩
  obtain ⟨w, r1, r2⟩ := hI q hq
  refine ⟨by rw [rd_def, hc, Nat.zero_add]; simp [r1], ?_⟩
  simp only [r1, Option.getD_some]
  obtain ⟨k1, k2⟩ := hb q hq
  rcases r2 with ⟨e, rfl⟩ | ⟨b2, rfl, _, r3⟩
  ·rw [e]
   exact ⟨none, 0, 0, 0, rfl, fun h => absurd h (by simp), fun i hi => absurd hi (by simp), fun i => by rw [nth_ge (by simp)]; decide, by simp⟩
  ·exact ⟨_, b2, 0, _, rfl, fun _ => rfl, fun j hj => by rw [rd_def, r3, Nat.zero_add]; exact intsC_get hj, k1, k2⟩
theorem append_n0 {el : TypeId} {size bytes c : Nat} {a : Option Addr} {st : St} : appendV el size bytes (.slice none 0 0) (.slice a 0 c) st = some (.slice none 0 0, st) := by
 have : readSlice st.h size 0 a = some [] := by unfold readSlice; split <;> simp
 simp [appendV, this, appendCells]
theorem append_nN {el : TypeId} {size bytes b o n c fl : Nat} {H : List O} {l : List Value} (hr : rdN H b o (n * size) = some l) (hn : 0 < n) (hs : 0 < size) (hall : l.all one1 = true) (hroom : n * bytes ≤ roomMax) :
  appendV el size bytes (.slice none 0 0) (.slice (some ⟨b, o, none⟩) n c) ⟨H, fl⟩ = some (.slice (some ⟨H.length, 0, none⟩) n n, ⟨H ++ [.cells l el (some size)], fl⟩) := by
 have hns : ¬ n * size = 0 := by
  have := Nat.mul_pos hn hs; omega
 have hrd : readSlice H size n (some ⟨b, o, none⟩) = some l := by simp only [readSlice]; rw [if_neg hns]; exact hr
 simp only [appendV, hrd, bind, Option.bind_some, appendCells]
 rw [if_neg (by omega), if_neg (by omega), if_pos ⟨by rw [Nat.zero_add]; exact hroom, hall⟩]
 simp [readSlice, kill]
end Go.Proofs.Ytjlkndkedknocaa
namespace Go.Ai
theorem rdN_all {h : List O} {b o n : Nat} {vs : Nat → Value} (hr : ∀ i, i < n → rdO h[b]? (o + i) = some (vs i)) (hn : 0 < n) : rdN h b o n = some ((List.range n).map vs) := by
 have h0 := hr 0 hn
 cases hb : h[b]? with
 | none => rw [hb] at h0; simp [rdO] at h0
 | some ob =>
  cases ob with
  | cells cs el ow =>
   have hr' : ∀ i, i < n → cs[o + i]? = some (vs i) := fun i hi => by
    have := hr i hi
    rw [hb] at this
    exact this
   have hl : o + n ≤ cs.length := by
    have := (List.getElem?_eq_some_iff.1 (hr' (n - 1) (by omega))).1
    omega
   simp only [rdN, hb]
   rw [if_pos hl]
   congr 1
   apply List.ext_getElem?
   intro i
   by_cases hi : i < n
   ·rw [List.getElem?_take_of_lt hi, List.getElem?_drop, hr' i hi]
    simp [hi]
   ·rw [List.getElem?_eq_none (by simp; omega), List.getElem?_eq_none (by simp; omega)]
  | _ => rw [hb] at h0; simp [rdO] at h0
end Go.Ai
namespace Go.Proofs.Ytjlkndkedknocaa
open Go Go.Ai
attribute [local instance] Classical.propDecidable
theorem snocM {H : List O} {va w : Value} {A : List (List Int)} {row : List Int} {fl : Nat} (hA : Mat H va A) (hw : Ints H w row) (hfl : fl ≤ H.length) (hs : A.length ≤ 1000) :
  ∃ v1 H1 v2 H2, appendV 34 1 24 (.slice none 0 0) va ⟨H, fl⟩ = some (v1, ⟨H1, fl⟩) ∧ one1 w = true ∧ w.cells = #[w] ∧
   appendV 34 1 24 v1 (.slice (some ⟨H1.length, 0, none⟩) 1 1) ⟨H1 ++ [.cells [w] 34 (some 0)], fl⟩ = some (v2, ⟨H2, fl⟩) ∧ Sub H H1 ∧ Sub H H2 ∧ H.length ≤ H1.length ∧ Mat H2 v2 (A ++ [row]) := by
 obtain ⟨wa, wb, wo, wc, hwe, _⟩ := ints_at hw
 have one : one1 w = true := by rw [hwe]; rfl
 have cs : w.cells = #[w] := by rw [hwe]; rfl
 obtain ⟨a, b, o, c, vs, rfl, ha, hr, hl⟩ := mat_at hA
 have key : ∃ v1 H1, appendV 34 1 24 (.slice none 0 0) (.slice a A.length c) ⟨H, fl⟩ = some (v1, ⟨H1, fl⟩) ∧ Sub H H1 ∧ OwnS H1 H.length v1 A.length ((List.range A.length).map vs) 34 1 := by
  rcases Nat.eq_zero_or_pos A.length with h0 | h0
  ·rw [h0]
   exact ⟨.slice none 0 0, H, append_n0, Sub.refl _, OwnS.nil _ _ _ _⟩
  ·obtain rfl := ha h0
   have hrd := rdN_all (fun i hi => (hr i hi).1) h0
   have hall : ((List.range A.length).map vs).all one1 = true := by
    simp only [List.all_eq_true, List.mem_map, List.mem_range]
    rintro x ⟨i, hi, rfl⟩
    obtain ⟨_, _, _, _, he, _⟩ := ints_at (hr i hi).2
    rw [he]; rfl
   have hap := append_nN (el := 34) (size := 1) (bytes := 24) (c := c) (fl := fl) (by rw [Nat.mul_one]; exact hrd) h0 (by omega) hall (by simp only [roomMax]; omega)
   exact ⟨_, _, hap, (Sub.refl _).app _, ⟨by simp, .inr ⟨H.length, 1, rfl, Nat.le_refl _, by rw [app_at0]; rfl, .inr rfl⟩⟩⟩
 obtain ⟨v1, H1, hap, s1, ho⟩ := key
 have hread : readSlice (H1 ++ [.cells [w] 34 (some 0)]) 1 1 (some ⟨H1.length, 0, none⟩) = some [w] := by simp [readSlice, rdN_at0]
 have hl1 := s1.len
 have ho1 : OwnS (H1 ++ [.cells [w] 34 (some 0)]) H.length v1 A.length ((List.range A.length).map vs) 34 1 := ho.ext (Ext.snoc _ _)
 obtain ⟨b', H2, f2, hap2, hb', hown, hf1, hf2, hL2, K2⟩ := append_S (fl := fl) (c := 1) (bytes := 24) ho1 hread (by simp) (by simp [one]) (by simp; omega) (by simp only [roomMax]; omega) (by omega)
 obtain rfl : f2 = fl := by omega
 have s2 : Sub H H2 := fun q ob hq => by
  refine K2 q ob (app_of (s1 _ _ hq) _) fun n c e => ?_
  have hql := (List.getElem?_eq_some_iff.1 hq).1
  rcases ho.2 with ⟨z1, _⟩ | ⟨b2, s2', z1, z2, z3, _⟩
  ·rw [z1] at e; cases e
  ·rw [z1] at e
   simp only [Value.slice.injEq, Option.some.injEq, Addr.mk.injEq] at e
   obtain ⟨⟨rfl, _⟩, _⟩ := e
   omega
 refine ⟨v1, H1, _, H2, hap, one, cs, hap2, s1, s2, hl1, ?_⟩
 obtain ⟨hlen, hv⟩ := hown
 rcases hv with ⟨e, _⟩ | ⟨b2, sz, e, hb2, hc2, _⟩
 ·cases e
 ·simp only [Value.slice.injEq, Option.some.injEq, Addr.mk.injEq] at e
  obtain ⟨⟨rfl, _⟩, _⟩ := e
  refine ⟨_, b', 0, A.length + 1, fun q => if q < A.length then vs q else w, by simp, fun _ => rfl, fun i hi => ?_, by simp; omega⟩
  rw [rd_def, hc2, Nat.zero_add]
  have hi' : i < A.length + 1 := by simpa using hi
  by_cases hq : i < A.length
  ·have e2 : nthR (A ++ [row]) i = nthR A i := by rw [nthR_snoc, if_pos hq]
   have ev : (fun q => if q < A.length then vs q else w) i = vs i := if_pos hq
   rw [ev, e2]
   refine ⟨?_, (hr i hq).2.sub s2⟩
   simp only [rdO_cells]
   rw [List.getElem?_append_left (by simp; omega)]
   simp [hq]
  ·have hqe : i = A.length := by omega
   have e2 : nthR (A ++ [row]) i = row := by rw [nthR_snoc, if_neg hq, if_pos hqe]
   have ev : (fun q => if q < A.length then vs q else w) i = w := if_neg hq
   rw [ev, e2]
   refine ⟨?_, hw.sub s2⟩
   simp only [rdO_cells]
   rw [List.getElem?_append_right (by simp; omega)]
   simp [hqe]
variable {E : Env} (hE : OE E)
include hE
structure CtI (h : List O) (n gens : Nat) (P rels : List (List Int)) (m : Nat) (A : List (List Int)) (va vp vr : Value) : Prop where
 mA : Mat h va A
 mP : Mat h vp P
 mR : Mat h vr rels
 len : A.length + m = gens
 perm : ∀ k, k < A.length → PermL n (nthR A k)
theorem counted1_ {n gens : Nat} {P rels : List (List Int)} (hn : n ≤ 1000) (hg : gens ≤ 600) (hP : ∀ q, q < P.length → PermL n (nthR P q))
  (hR : ∀ i, i < rels.length → nthR rels i ≠ [] ∧ LetOk gens (nthR rels i)) (hpow : ∀ m, m ≤ gens → P.length ^ m < 2 ^ 60) (hPl : P.length ≤ 1000000)
  (m : Nat) (ih : ∀ m', m = m' + 1 → ∀ (h : List O) (A : List (List Int)) (va vp vr : Value), CtI h n gens P rels m' A va vp vr →
   DR E 194 [.agg #[.int .i64 gens, vr], vp, va] ⟨h, h.length⟩ (.ret (.int .i64 (cntC n P rels m' A))) ⟨h, h.length⟩)
  {h : List O} {A : List (List Int)} {va vp vr : Value} (hI : CtI h n gens P rels m A va vp vr) :
   DR E 194 [.agg #[.int .i64 gens, vr], vp, va] ⟨h, h.length⟩ (.ret (.int .i64 (cntC n P rels m A))) ⟨h, h.length⟩ := by
 refine hE.fn (body := rb194) rfl ?_
 unfold rb194
 have hsc : ∀ b : Int, (Out.ret (.int .i64 b)).scalar = true := fun _ => rfl
 have hlen := hI.len
 obtain ⟨H, hH⟩ : ∃ H, H = h ++ [O.cells [.int .i64 gens, vr] 81 (some 0)] := ⟨_, rfl⟩
 have hs : Sub h H := by rw [hH]; exact (Sub.refl _).app _
 have b0 : H[h.length]? = some (O.cells [.int .i64 gens, vr] 81 (some 0)) := by rw [hH, app_at0]; rfl
 have hlH : H.length = h.length + 1 := by rw [hH]; simp
 have hj : joined ⟨H, h.length⟩ ⟨H, H.length⟩ = ⟨H, h.length⟩ := joined_mk _ _
 have hAH := hI.mA.sub hs
 obtain ⟨aa, ab, ao, ac, avs, rfl, haa, har, hal⟩ := mat_at hAH
 obtain ⟨ra, rb, ro, rc, rvs, rfl, hra, hrr, hrl⟩ := mat_at (hI.mR.sub hs)
 obtain ⟨pa, pb, po, pc, pvs, rfl, hpa, hpr, hpl⟩ := mat_at (hI.mP.sub hs)
 have hAsub : ∀ k, k < A.length → PermL (nthR A 0).length (nthR A k) := fun k hk => by
  have := hI.perm 0 (by omega)
  rw [this.len]; exact hI.perm k hk
 have hAn : 0 < A.length → (nthR A 0).length = n := fun h0 => (hI.perm 0 h0).len
 simp [← hH, rd_def, b0]
 refine DW_loop (fun kk fr st => ∃ (i : Nat), i + kk = rels.length ∧ st = ⟨H, h.length⟩ ∧ (∀ j, j < i → lastW (nthR rels j) = A.length → TrivL A (A.map invL) (nthR rels j) n) ∧ get fr 1 = .slice pa P.length pc ∧ get fr 2 = .slice aa A.length ac ∧ get fr 3 = .pointer (some ⟨h.length, 0, none⟩) ∧ get fr 7 = .int .i64 A.length ∧ get fr 17 = .slice ra rels.length rc ∧ get fr 18 = .int .i64 rels.length ∧ get fr 19 = .int .i64 i) ?_ (k := rels.length) ?_
 ·rintro kk fr st ⟨i, hik, rfl, hd, g1, g2, g3, g7, g17, g18, g19⟩
  by_cases hi : i < rels.length
  ·have hwi : IntKind.i64.wrap ((i : Int) + 1) = (i : Int) + 1 := by rw [w64_id] <;> omega
   have hwa : IntKind.i64.wrap ((A.length : Int) - 1) = (A.length : Int) - 1 := by rw [w64_id] <;> omega
   obtain rfl := hra (by omega)
   obtain ⟨r1, r2⟩ := hrr i hi
   obtain ⟨hne, hlet⟩ := hR i hi
   obtain ⟨w, hw⟩ : ∃ w, w = nthR rels i := ⟨_, rfl⟩
   rw [← hw] at r2 hne hlet
   have hsm : ∀ j, j < w.length → -1000 ≤ nth w j ∧ nth w j ≤ 1000 := fun j hj => by have := hlet j hj; omega
   have hk1 := known_ hE r2 (k := A.length) (by omega) hsm
   have hk2 := known_ hE r2 (k := (A.length : Int) - 1) (by omega) hsm
   have hkl := known_last (k := A.length) hne
   by_cases c1 : KnownL w A.length
   ·by_cases c2 : KnownL w ((A.length : Int) - 1)
    ·have hnl : ¬ lastW w = A.length := fun e => (hkl.2 e).2 c2
     rw [decide_eq_true c1] at hk1
     rw [decide_eq_true c2] at hk2
     simp [g1, g2, g3, g7, g17, g18, g19, hi, r1, rd_def, DC_of hk1, DC_of hk2, hj, hwa, hwi]
     refine ⟨kk - 1, by omega, i + 1, by omega, fun j hj he => ?_, by omega⟩
     by_cases e : j = i
     ·rw [e, ← hw] at he; exact absurd he hnl
     ·exact hd j (by omega) he
    ·have hl := hkl.1 ⟨c1, c2⟩
     have hLA : LetOk A.length w := fun j hj => ⟨(hlet j hj).1, by have := c1 j hj; omega⟩
     have hA0 : 0 < A.length := by
      have h0 : 0 < w.length := List.length_pos_iff.2 hne
      have := hLA 0 h0
      omega
     have ht := trivialR_ hE hAH r2 hAsub hLA (by have := hAn hA0; omega)
     rw [hAn hA0] at ht
     rw [decide_eq_true c1] at hk1
     rw [decide_eq_false c2] at hk2
     by_cases ct : TrivL A (invA A) w n
     ·rw [decide_eq_true (.inr ct)] at ht
      simp [g1, g2, g3, g7, g17, g18, g19, hi, r1, rd_def, DC_of hk1, DC_of hk2, DC_of ht, hj, hwa, hwi]
      refine ⟨kk - 1, by omega, i + 1, by omega, fun j hj he => ?_, by omega⟩
      by_cases e : j = i
      ·rw [e, ← hw]; exact ct
      ·exact hd j (by omega) he
     ·rw [decide_eq_false (fun h' => h'.elim (fun h0 => by omega) ct)] at ht
      have hok : ¬ OkC n rels A := fun hok => ct (by have := hok i hi (by rw [← hw]; exact hl); rw [← hw] at this; exact this)
      have hz : cntC n P rels m A = 0 := by rw [cntC_eq, if_neg hok]
      simp [g1, g2, g3, g7, g17, g18, g19, hi, r1, rd_def, DC_of hk1, DC_of hk2, DC_of ht, hj, hwa, hwi, hz, endK_ret, back, hsc]
   ·have hnl : ¬ lastW w = A.length := fun e => c1 (hkl.2 e).1
    rw [decide_eq_false c1] at hk1
    simp [g1, g2, g3, g7, g17, g18, g19, hi, r1, rd_def, DC_of hk1, DC_of hk2, hj, hwa, hwi]
    refine ⟨kk - 1, by omega, i + 1, by omega, fun j hj he => ?_, by omega⟩
    by_cases e : j = i
    ·rw [e, ← hw] at he; exact absurd he hnl
    ·exact hd j (by omega) he
  ·have hir : i = rels.length := by omega
   have hok : OkC n rels A := fun j hj he => hd j (by omega) he
   cases m with
   | zero =>
    have hz : cntC n P rels 0 A = 1 := by simp only [cntC]; rw [if_pos hok]
    have hAg : A.length = gens := by omega
    simp [g1, g2, g3, g7, g17, g18, g19, hir, rd_def, b0, hAg, hz, endK_ret, back, hsc]
   | succ m =>
    have hz : cntC n P rels (m + 1) A = sumNat (fun q => cntC n P rels m (A ++ [nthR P q])) P.length := by simp only [cntC]; rw [if_pos hok]
    have hAg : ¬ A.length = gens := by omega
    have hAg' : ¬ (A.length : Int) = gens := by omega
    have hbd : ∀ q, q ≤ P.length → sumNat (fun q => cntC n P rels m (A ++ [nthR P q])) q ≤ q * P.length ^ m := fun q _ => sumNat_le fun q' _ => cntC_le _ _ _ _ _
    have hbd2 : ∀ q, q ≤ P.length → sumNat (fun q => cntC n P rels m (A ++ [nthR P q])) q < 2 ^ 60 := fun q hq => by
     have h1 := hbd q hq
     have h2 := hpow (m + 1) (by omega)
     rw [Nat.pow_succ, Nat.mul_comm] at h2
     have h3 : q * P.length ^ m ≤ P.length * P.length ^ m := Nat.mul_le_mul_right _ hq
     omega
    obtain ⟨F, hF⟩ : ∃ F, F = fun q => cntC n P rels m (A ++ [nthR P q]) := ⟨_, rfl⟩
    rw [hz]
    rw [← hF] at hbd2 ⊢
    simp [g1, g2, g3, g7, g17, g18, g19, hir, rd_def, b0, hAg, hAg']
    refine DW_loop (fun kk fr st => ∃ (q : Nat) (K : List O), q + kk = P.length ∧ st = ⟨K, h.length⟩ ∧ Sub H K ∧ get fr 1 = .slice pa P.length pc ∧ get fr 2 = .slice aa A.length ac ∧ get fr 3 = .pointer (some ⟨h.length, 0, none⟩) ∧ get fr 10 = .int .i64 (sumNat F q) ∧ get fr 44 = .slice pa P.length pc ∧ get fr 45 = .int .i64 P.length ∧ get fr 46 = .int .i64 q) ?_ (k := P.length) ?_
    ·clear g1 g2 g3 g7 g17 g18 g19
     rintro kk fr st ⟨q, K, hqk, rfl, hK, g1, g2, g3, g10, g44, g45, g46⟩
     by_cases hq : q < P.length
     ·have hwq : IntKind.i64.wrap ((q : Int) + 1) = (q : Int) + 1 := by rw [w64_id] <;> omega
      obtain rfl := hpa (by omega)
      obtain ⟨p1, p2⟩ := hpr q hq
      have p1K := Ai.Sub.rdO hK p1
      have hAK := hAH.sub hK
      have hlK := hK.len
      obtain ⟨v1, H1, v2, H2, e1, one, cs, e2, s1, s2, hl1, hM⟩ := snocM (fl := h.length) hAK (p2.sub hK) (by omega) (by omega)
      have b2 := s2 _ _ (hK _ _ b0)
      have hcall := ih m rfl H2 (A ++ [nthR P q]) v2 _ _ ⟨hM, hI.mP.sub ((hs.trans hK).trans s2), hI.mR.sub ((hs.trans hK).trans s2), by simp; omega, fun k hk => by
       rw [nthR_snoc]
       split
       ·exact hI.perm k (by assumption)
       ·rw [if_pos (by simp at hk; omega)]; exact hP q hq⟩
      have hj2 : joined ⟨H2, h.length⟩ ⟨H2, H2.length⟩ = ⟨H2, h.length⟩ := joined_mk _ _
      have hFq : cntC n P rels m (A ++ [nthR P q]) = F q := by rw [hF]
      rw [hFq] at hcall
      have hsq : sumNat F (q + 1) = sumNat F q + F q := rfl
      have hws : IntKind.i64.wrap ((sumNat F q : Int) + F q) = (sumNat F (q + 1) : Nat) := by
       have := hbd2 (q + 1) (by omega)
       rw [w64_id] <;> omega
      simp [g1, g2, g3, g10, g44, g45, g46, hq, p1K, rd_def, e1, one, cs, e2, ↓b2, rdN_def, DC_of hcall, hj2, hws, hwq]
      exact ⟨kk - 1, by omega, q + 1, by omega, hK.trans s2, rfl, by omega⟩
     ·have hqe : q = P.length := by omega
      simp [g1, g2, g3, g10, g44, g45, g46, hqe, endK_ret, back, hsc]
    ·exact ⟨0, H, by omega, rfl, Sub.refl _, by simp [g1, g2, g3, sumNat]⟩
 ·exact ⟨0, by omega, rfl, fun j hj => by omega, by simp⟩
theorem counted_ {n gens : Nat} {P rels : List (List Int)} (hn : n ≤ 1000) (hg : gens ≤ 600) (hP : ∀ q, q < P.length → PermL n (nthR P q))
  (hR : ∀ i, i < rels.length → nthR rels i ≠ [] ∧ LetOk gens (nthR rels i)) (hpow : ∀ m, m ≤ gens → P.length ^ m < 2 ^ 60) (hPl : P.length ≤ 1000000) :
  ∀ (m : Nat) (h : List O) (A : List (List Int)) (va vp vr : Value), CtI h n gens P rels m A va vp vr →
   DR E 194 [.agg #[.int .i64 gens, vr], vp, va] ⟨h, h.length⟩ (.ret (.int .i64 (cntC n P rels m A))) ⟨h, h.length⟩ := by
 intro m
 induction m with
 | zero => exact fun h A va vp vr hI => counted1_ hE hn hg hP hR hpow hPl 0 (fun m' e => by omega) hI
 | succ m ih => exact fun h A va vp vr hI => counted1_ hE hn hg hP hR hpow hPl (m + 1) (fun m' e => by cases e; exact ih) hI
end Go.Proofs.Ytjlkndkedknocaa
namespace Go.Ai
def insP (m : Int) (p : List Int) (i : Nat) : List Int := p.take i ++ [m] ++ p.drop i
def insA (m : Int) (p : List Int) (i : Nat) : List (List Int) := (List.range i).map (insP m p)
def insQ (m : Int) (P : List (List Int)) (q : Nat) : List (List Int) := (P.take q).flatMap fun p => insA m p (p.length + 1)
def permR : Nat → List (List Int)
 | 0 => [[]]
 | n + 1 => insQ n (permR n) (permR n).length
theorem insA_succ (m : Int) (p : List Int) (i : Nat) : insA m p (i + 1) = insA m p i ++ [insP m p i] := by simp [insA, List.range_succ]
theorem insQ_succ (m : Int) (P : List (List Int)) {q : Nat} (h : q < P.length) : insQ m P (q + 1) = insQ m P q ++ insA m (nthR P q) ((nthR P q).length + 1) := by
 unfold insQ
 rw [List.take_succ_eq_append_getElem h, List.flatMap_append]
 simp [nthR, h]
theorem permR_row : ∀ n, ∀ p ∈ permR n, p.length = n := by
 intro n
 induction n with
 | zero => intro p hp; simp [permR] at hp; rw [hp]; rfl
 | succ n ih =>
  intro p hp
  simp only [permR, insQ, List.take_length, List.mem_flatMap, insA, List.mem_map, List.mem_range] at hp
  obtain ⟨a, ha, i, hi, rfl⟩ := hp
  have := ih a ha
  simp [insP]; omega
theorem permR_len : ∀ n, n ≤ 4 → (permR n).length ≤ 24 := by decide +kernel
theorem insQ_len (m : Int) (P : List (List Int)) (n : Nat) (hP : ∀ p ∈ P, p.length = n) : ∀ q, q ≤ P.length → (insQ m P q).length = q * (n + 1) := by
 intro q
 induction q with
 | zero => intro _; simp [insQ]
 | succ q ih =>
  intro hq
  rw [insQ_succ m P (by omega), List.length_append, ih (by omega), Nat.succ_mul]
  simp [insA, hP _ (nthR_mem (show q < P.length by omega))]
theorem OwnT.keepB {h h' : List O} {lo k : Nat} {v : Value} {cs : List Value} {el : TypeId} {size : Nat} (ho : OwnT h lo v k cs el size) (hk : ∀ b s, lo ≤ b → h[b]? = some (.cells cs el (some s)) → h'[b]? = some (.cells cs el (some s))) : OwnT h' lo v k cs el size := ho.keep fun b s _ h2 h3 => hk b s h2 h3
theorem OwnT.lo {h : List O} {lo k : Nat} {v : Value} {cs : List Value} {el : TypeId} (ho : OwnT h lo v k cs el 1) {i : Nat} (hi : i ≤ k) (hc : k < 1000000) :
  ∃ a c, sliceV h 1 v none (some (.int .i64 i)) none = some (.slice a i c) ∧ readSlice h 1 i a = some (cs.take i) := by
 have hl := ho.len
 have h1 : (i : Int) ≤ k := by omega
 rcases ho with ⟨rfl, rfl, rfl⟩ | ⟨_, ⟨rfl, rfl⟩ | ⟨b, s, rfl, h2, h3, h4⟩⟩
 ·obtain rfl : i = 0 := by omega
  exact ⟨some ⟨0, 0, some 0⟩, 0, by simp [emptyS, sliceV, mxB, hiB, loB, bound, sliceA], by simp [readSlice]⟩
 ·obtain rfl : i = 0 := by omega
  exact ⟨none, 0, by simp [sliceV, mxB, hiB, loB, bound, sliceA], by simp [readSlice]⟩
 ·have ht : tagOk h 1 b = true := by
   simp only [tagOk, h3]
   rcases h4 with rfl | rfl <;> rfl
  refine ⟨some ⟨b, 0, none⟩, k, by simp [sliceV, mxB, hiB, loB, bound, sliceA, ht, h1, hi], ?_⟩
  simp only [readSlice]
  split
  ·rename_i h0
   have : i = 0 := by omega
   rw [this]; rfl
  ·simp [rdN, h3]
   omega
theorem OwnT.hi {h : List O} {lo k : Nat} {v : Value} {cs : List Value} {el : TypeId} (ho : OwnT h lo v k cs el 1) {i : Nat} (hi : i ≤ k) (hc : k < 1000000) :
  ∃ a c, sliceV h 1 v (some (.int .i64 i)) none none = some (.slice a (k - i) c) ∧ readSlice h 1 (k - i) a = some (cs.drop i) := by
 have hl := ho.len
 have h1 : (i : Int) ≤ k := by omega
 rcases ho with ⟨rfl, rfl, rfl⟩ | ⟨_, ⟨rfl, rfl⟩ | ⟨b, s, rfl, h2, h3, h4⟩⟩
 ·obtain rfl : i = 0 := by omega
  exact ⟨some ⟨0, 0, some 0⟩, 0, by simp [emptyS, sliceV, mxB, hiB, loB, bound, sliceA], by simp [readSlice]⟩
 ·obtain rfl : i = 0 := by omega
  exact ⟨none, 0, by simp [sliceV, mxB, hiB, loB, bound, sliceA], by
   have : cs = [] := List.length_eq_zero_iff.1 (by omega)
   simp [readSlice, this]⟩
 ·have ht : tagOk h 1 b = true := by
   simp only [tagOk, h3]
   rcases h4 with rfl | rfl <;> rfl
  refine ⟨some (if k = i then ⟨b, 0, none⟩ else ⟨b, 0 + i * 1, none⟩), k - i, by simp [sliceV, mxB, hiB, loB, bound, sliceA, ht, h1, hi], ?_⟩
  by_cases hki : k = i
  ·rw [if_pos hki]
   have : cs.drop i = [] := by rw [List.drop_eq_nil_iff]; omega
   simp [readSlice, this, hki]
  ·rw [if_neg hki]
   simp only [readSlice]
   rw [if_neg (by omega)]
   simp [rdN, h3]
   refine ⟨by omega, ?_⟩
   rw [List.take_of_length_le (by simp; omega)]
theorem append_U {H : List O} {lo k n fl c : Nat} {v : Value} {cs new : List Value} {el : TypeId} {bytes : Nat} {xb : Option Addr}
  (ho : OwnT H lo v k cs el 1) (hx : readSlice H 1 n xb = some new) (hnew : new.length = n) (hone : new.all one1 = true) (hlo : lo ≤ H.length) (hroom : (k + n) * bytes ≤ roomMax) (hfl : fl ≤ lo) :
  ∃ v' H', appendV el 1 bytes v (.slice xb n c) ⟨H, fl⟩ = some (v', ⟨H', fl⟩) ∧ OwnT H' lo v' (k + n) (cs ++ new) el 1 ∧ H.length ≤ H'.length ∧ ∀ (b : Nat) (o : O), H[b]? = some o → b < lo → H'[b]? = some o := by
 rcases Nat.eq_zero_or_pos n with rfl | hn
 ·have hnn : new = [] := List.length_eq_zero_iff.1 hnew
  subst hnn
  obtain ⟨a, hv, _⟩ := ho.look
  refine ⟨v, H, ?_, by simpa using ho, Nat.le_refl _, fun b o e _ => e⟩
  rw [hv]
  simp [appendV, hx, appendCells]
 ·obtain ⟨b', H', f', h1, h2, h3, h4, h5, h6, h7⟩ := append_T (fl := fl) (c := c) (bytes := bytes) ho hx (by omega) hone hlo hroom hn
  obtain rfl : f' = fl := by omega
  exact ⟨_, H', h1, h3, h6, fun b o e hb => h7 b o e (.inl hb)⟩
end Go.Ai
namespace Go.Proofs.Ytjlkndkedknocaa
open Go Go.Ai
attribute [local instance] Classical.propDecidable
def PermP (h : List O) (lo : Nat) (v : Value) (A : List (List Int)) : Prop :=
 ∃ vs, OwnS h lo v A.length vs 34 1 ∧ ∀ q, q < A.length → ∃ w, vs[q]? = some w ∧ OwnT h lo w (nthR A q).length (intsC (nthR A q)) 3 1
theorem PermP.mat {h : List O} {lo : Nat} {v : Value} {A : List (List Int)} (k : PermP h lo v A) (hA : A.length ≤ 100000) (hs : ∀ q, q < A.length → SmallL (nthR A q) ∧ (nthR A q).length ≤ 1000) : Mat h v A := by
 obtain ⟨vs, ho, hr⟩ := k
 obtain ⟨hl, hv⟩ := ho
 rcases hv with ⟨rfl, h0⟩ | ⟨b, s, rfl, hb, hc, _⟩
 ·have : A = [] := List.length_eq_zero_iff.1 h0
  subst this
  exact ⟨none, 0, 0, 0, fun _ => undef, rfl, fun h => absurd h (by simp), fun i hi => absurd hi (by simp), by simp⟩
 ·refine ⟨_, b, 0, A.length, fun q => (vs[q]?).getD undef, rfl, fun _ => rfl, fun q hq => ?_, by omega⟩
  obtain ⟨w, r1, r2⟩ := hr q hq
  refine ⟨by rw [rd_def, hc, Nat.zero_add]; simp [r1], ?_⟩
  simp only [r1, Option.getD_some]
  exact r2.ints (hs q hq).1 (by have := (hs q hq).2; omega)
theorem OwnT.low {h : List O} {lo lo' k : Nat} {v : Value} {cs : List Value} {el : TypeId} {size : Nat} (ho : OwnT h lo v k cs el size) (hl : lo' ≤ lo) : OwnT h lo' v k cs el size := by
 rcases ho with h1 | ⟨h0, h1 | ⟨b, s, h1, h2, h3, h4⟩⟩
 ·exact .inl h1
 ·exact .inr ⟨h0, .inl h1⟩
 ·exact .inr ⟨h0, .inr ⟨b, s, h1, by omega, h3, h4⟩⟩
theorem PermP.low {h : List O} {lo lo' : Nat} {v : Value} {A : List (List Int)} (k : PermP h lo v A) (hl : lo' ≤ lo) : PermP h lo' v A := by
 obtain ⟨vs, ⟨h0, h1⟩, hr⟩ := k
 refine ⟨vs, ⟨h0, ?_⟩, fun q hq => ?_⟩
 ·rcases h1 with h1 | ⟨b, s, h1, h2, h3⟩
  ·exact .inl h1
  ·exact .inr ⟨b, s, h1, by omega, h3⟩
 ·obtain ⟨w, r1, r2⟩ := hr q hq
  exact ⟨w, r1, OwnT.low r2 hl⟩
theorem PermP.post {h0 h : List O} {f lo : Nat} {v : Value} {A : List (List Int)} (k : PermP h lo v A) (hl : h0.length ≤ lo) (hs : Sub h0 h) (hf : h0.length ≤ f) :
  pairQ (back ⟨h0, h0.length⟩ (.ret v) ⟨h, f⟩) fun o st' => ∃ v, o = .ret v ∧ Sub h0 st'.h ∧ h0.length ≤ st'.fl ∧ PermP st'.h h0.length v A := by
 unfold pairQ back
 split
 ·rename_i hc
  refine ⟨v, rfl, Sub.refl _, Nat.le_refl _, ?_⟩
  obtain ⟨vs, ⟨k0, k1⟩, _⟩ := k
  rcases k1 with ⟨rfl, h1⟩ | ⟨b, s, rfl, h2, h3, _⟩
  ·have : A = [] := List.length_eq_zero_iff.1 h1
   subst this
   exact ⟨[], OwnS.nil _ _ _ _, fun q hq => by simp at hq⟩
  ·have hz : A.length = 0 := by
    simp [Out.scalar, scalar, flat1] at hc
    exact flat_len rfl hc.1
   have : A = [] := List.length_eq_zero_iff.1 hz
   subst this
   simp [Out.scalar, scalar, flat1, flat] at hc
 ·exact ⟨v, rfl, hs, hf, k.low hl⟩
variable {E : Env} (hE : OE E)
include hE
theorem perms_ : ∀ (n : Nat), n ≤ 4 → ∀ (h0 : List O),
  DC E 195 [.int .i64 n] ⟨h0, h0.length⟩ fun o st' => ∃ v, o = .ret v ∧ Sub h0 st'.h ∧ h0.length ≤ st'.fl ∧ PermP st'.h h0.length v (permR n) := by
 intro n
 induction n with
 | zero =>
  intro _ h0
  refine hE.fnC (body := rb195) rfl ?_
  unfold rb195
  have b2 : one1 emptyS = true := rfl
  have b3 : emptyS.cells = #[emptyS] := rfl
  simp [b2, b3, endK_ret]
  refine PermP.post (lo := h0.length) ?_ (Nat.le_refl _) ((Sub.refl _).app _) (Nat.le_refl _)
  refine ⟨[emptyS], ⟨by simp [permR], .inr ⟨h0.length, 0, rfl, Nat.le_refl _, by rw [app_at0]; rfl, .inl rfl⟩⟩, fun q hq => ?_⟩
  have hq0 : q = 0 := by simp [permR] at hq; exact hq
  subst hq0
  exact ⟨emptyS, rfl, .inl ⟨rfl, rfl, rfl⟩⟩
 | succ n ih =>
  intro hn h0
  have ih := ih (by omega)
  refine hE.fnC (body := rb195) rfl ?_
  unfold rb195
  have hw0 : IntKind.i64.wrap (((n + 1 : Nat) : Int) - 1) = n := by rw [w64_id] <;> omega
  have hn1 : ¬ ((n : Int) + 1) = 0 := by omega
  have hw1 : IntKind.i64.wrap ((n : Int) + 1 - 1) = n := by rw [w64_id] <;> omega
  obtain ⟨P, hP⟩ : ∃ P, P = permR n := ⟨_, rfl⟩
  have hPl : P.length ≤ 24 := by rw [hP]; exact permR_len n (by omega)
  have hPr : ∀ p ∈ P, p.length = n := by rw [hP]; exact permR_row n
  have hQl := insQ_len n P n hPr
  have hres : permR (n + 1) = insQ n P P.length := by simp only [permR]; rw [hP]
  rw [hres]
  obtain ⟨N, hN⟩ : ∃ N : Nat, (n : Int) + 1 = N := ⟨n + 1, by omega⟩
  have hN0 : ¬ (N : Int) = 0 := by omega
  have hNn : ¬ N = 0 := by omega
  have hw1 : IntKind.i64.wrap ((N : Int) - 1) = n := by rw [← hN, w64_id] <;> omega
  have hcast : ((n + 1 : Nat) : Int) = N := by omega
  rw [hcast]
  simp [hNn, hw1]
  refine (ih h0).imp ?_
  rintro o ⟨h1, f1⟩ ⟨v1, rfl, s1, hf1, vs1, ho1, hr1⟩
  simp only at s1 hf1 ho1 hr1
  rw [← hP] at ho1 hr1
  have l1 := s1.len
  obtain ⟨hol, hov⟩ := ho1
  obtain ⟨pa, hpa⟩ : ∃ a, v1 = .slice a P.length P.length := by
   rcases hov with ⟨rfl, h0⟩ | ⟨b, s, rfl, _⟩
   ·exact ⟨none, by rw [h0]⟩
   ·exact ⟨_, rfl⟩
  subst hpa
  simp [joined_fl, hf1]
  refine DW_loop (fun kk fr st => ∃ (q : Nat) (h : List O) (v : Value), q + kk = P.length ∧ st = ⟨h, h0.length⟩ ∧ Sub h1 h ∧ PermP h h1.length v (insQ n P q) ∧ get fr 0 = .int .i64 N ∧ get fr 3 = v ∧ get fr 14 = .slice pa P.length P.length ∧ get fr 15 = .int .i64 P.length ∧ get fr 16 = .int .i64 q) ?_ (k := P.length) ?_
  ·rintro kk fr st ⟨q, h, v, hqk, rfl, hs, hv, g0, g3, g14, g15, g16⟩
   by_cases hq : q < P.length
   ·have hwq : IntKind.i64.wrap ((q : Int) + 1) = (q : Int) + 1 := by rw [w64_id] <;> omega
    obtain ⟨w, hw, how⟩ := hr1 q hq
    obtain ⟨b1, sz, hb1e, hb1c⟩ : ∃ b1 sz, pa = some ⟨b1, 0, none⟩ ∧ h1[b1]? = some (.cells vs1 34 (some sz)) := by
     rcases hov with ⟨e, h0⟩ | ⟨b, s, e, z1, z2, _⟩
     ·omega
     ·exact ⟨b, s, by injection e, z2⟩
    subst hb1e
    have hbh := hs _ _ hb1c
    have hrow : (nthR P q).length = n := hPr _ (nthR_mem hq)
    have howh := how.keepB (h' := h) fun b s _ hb => hs _ _ hb
    obtain ⟨wa, hwe, _⟩ := howh.look
    obtain ⟨p, hp⟩ : ∃ p, p = nthR P q := ⟨_, rfl⟩
    rw [← hp] at how howh hrow hwe
    rw [hrow] at hwe
    simp [g0, g3, g14, g15, g16, hq, rd_def, ↓hbh, hw]
    have hone : ∀ l : List Int, (intsC l).all one1 = true := fun l => by simp [intsC, one1]
    refine DW_loop (fun kk' fr st => ∃ (i : Nat) (h : List O) (v : Value), i + kk' = n + 1 ∧ st = ⟨h, h0.length⟩ ∧ Sub h1 h ∧ PermP h h1.length v (insQ n P q ++ insA n p i) ∧ get fr 0 = .int .i64 N ∧ get fr 3 = v ∧ get fr 5 = w ∧ get fr 6 = .int .i64 i ∧ get fr 14 = .slice (some ⟨b1, 0, none⟩) P.length P.length ∧ get fr 15 = .int .i64 P.length ∧ get fr 16 = .int .i64 q) ?_ (k := n + 1) ?_
    ·clear g0 g3 g14 g15 g16 hv
     rintro kk' fr st ⟨i, h, v, hik, rfl, hs, hv, g0, g3, g5, g6, g14, g15, g16⟩
     by_cases hi : i ≤ n
     ·have hwi : IntKind.i64.wrap ((i : Int) + 1) = (i : Int) + 1 := by rw [w64_id] <;> omega
      have hiN : (i : Int) ≤ n := by omega
      have howh := how.keepB (h' := h) fun b s _ hb => hs _ _ hb
      have lh := hs.len
      rw [hrow] at howh
      obtain ⟨a1, c1, e1, r1⟩ := howh.lo hi (by omega)
      obtain ⟨u1, H1, e2, o1, l1', K1⟩ := append_U (H := h) (lo := h.length) (k := 0) (n := i) (c := c1) (fl := h0.length) (bytes := 8) (v := .slice none 0 0) (cs := []) (el := 3) (.inr (OwnS.nil _ _ _ _)) r1 (by simp [hrow]; omega) (by have := hone (p.take i); simpa [intsC] using this) (Nat.le_refl _) (by simp only [roomMax]; omega) (by omega)
      have o1' : OwnT (H1 ++ [O.cells [.int .i64 n] 3 (some 0)]) h.length u1 i (intsC (p.take i)) 3 1 := by
       have := o1.keepB (h' := H1 ++ [O.cells [.int .i64 n] 3 (some 0)]) fun b s _ hb => app_of hb _
       simpa [intsC] using this
      obtain ⟨u2, H2, e3, o2, l2', K2⟩ := append_U (n := 1) (c := 1) (fl := h0.length) (bytes := 8) (xb := some ⟨H1.length, 0, none⟩) (new := [.int .i64 n]) o1' (by simp [readSlice, rdN_at0]) (by simp) (by simp [one1]) (by simp; omega) (by simp only [roomMax]; omega) (by omega)
      have lH2 : h.length ≤ H2.length := by simp at l2'; omega
      have k2 : ∀ (b : Nat) (o : O), h[b]? = some o → H2[b]? = some o := fun b o hb => by
       have hbl := (List.getElem?_eq_some_iff.1 hb).1
       exact K2 b o (app_of (K1 b o hb hbl) _) hbl
      have how2 := how.keepB (h' := H2) fun b s _ hb => k2 _ _ (hs _ _ hb)
      rw [hrow] at how2
      obtain ⟨a3, c3, e4, r3⟩ := how2.hi hi (by omega)
      obtain ⟨u3, H3, e5, o3, l3', K3⟩ := append_U (c := c3) (fl := h0.length) (bytes := 8) o2 r3 (by simp [hrow]) (by have := hone (p.drop i); simpa [intsC] using this) lH2 (by simp only [roomMax]; omega) (by omega)
      have k3 : ∀ (b : Nat) (o : O), h[b]? = some o → H3[b]? = some o := fun b o hb => K3 b o (k2 b o hb) (List.getElem?_eq_some_iff.1 hb).1
      have hrl : (insP n p i).length = n + 1 := by simp [insP, hrow]; omega
      have o3' : OwnT H3 h.length u3 (insP n p i).length (intsC (insP n p i)) 3 1 := by
       have e : i + 1 + (n - i) = (insP n p i).length := by omega
       rw [← e]
       simpa [intsC, insP] using o3
      obtain ⟨ua, hue, _⟩ := o3'.look
      have one3 : one1 u3 = true := by rw [hue]; rfl
      have cs3 : u3.cells = #[u3] := by rw [hue]; rfl
      obtain ⟨vs, hov2, hr2⟩ := hv
      have hAl : (insQ n P q ++ insA n p i).length = q * (n + 1) + i := by rw [List.length_append, hQl q (by omega)]; simp [insA]
      have hq24 : q * (n + 1) ≤ 24 * 5 := Nat.mul_le_mul (by omega) (by omega)
      have hov3 : OwnS (H3 ++ [O.cells [u3] 34 (some 0)]) h1.length v (insQ n P q ++ insA n p i).length vs 34 1 := hov2.keep fun b s' e hb => app_of (k3 _ _ hb) _
      have hread : readSlice (H3 ++ [O.cells [u3] 34 (some 0)]) 1 1 (some ⟨H3.length, 0, none⟩) = some [u3] := by simp [readSlice, rdN_at0]
      obtain ⟨b', H4, f4, e6, hb', hown, hf4, hf4', hL4, K4⟩ := append_S (fl := h0.length) (c := 1) (bytes := 24) hov3 hread (by simp) (by simp [one3]) (by simp; omega) (by simp only [roomMax]; omega) (by omega)
      obtain rfl : f4 = h0.length := by omega
      have hvlow : ∀ b, (b < h1.length ∨ ∃ cs s, (H3 ++ [O.cells [u3] 34 (some 0)])[b]? = some (O.cells cs 3 (some s))) → ∀ n c, v ≠ .slice (some ⟨b, 0, none⟩) n c := fun b hb n c e => by
       rcases hov3.2 with ⟨z1, _⟩ | ⟨b2, s2', z1, z2, z3, _⟩
       ·rw [z1] at e; cases e
       ·rw [z1] at e
        simp only [Value.slice.injEq, Option.some.injEq, Addr.mk.injEq] at e
        obtain ⟨⟨rfl, _⟩, _⟩ := e
        rcases hb with hb | ⟨cs, s, hb⟩
        ·omega
        ·rw [z3] at hb; cases hb
      have k4 : Sub h1 H4 := fun b o hb => K4 b o (app_of (k3 _ _ (hs _ _ hb)) _) (hvlow b (.inl (List.getElem?_eq_some_iff.1 hb).1))
      rw [hwe] at e1 e4
      simp [g0, g3, g5, g6, g14, g15, g16, hwe, hiN, e1, e2, hw1, e3, e4, e5, one3, cs3, e6, hwi]
      have hAs : insQ n P q ++ insA n p (i + 1) = (insQ n P q ++ insA n p i) ++ [insP n p i] := by rw [insA_succ, List.append_assoc]
      refine ⟨kk' - 1, by omega, i + 1, by omega, k4, _, ?_, rfl, by omega⟩
      rw [hAs]
      obtain ⟨B, hB⟩ : ∃ B, B = insQ n P q ++ insA n p i := ⟨_, rfl⟩
      have hBl : (insQ n P q).length + (insA n p i).length + 1 = (B ++ [insP n p i]).length := by rw [hB]; simp; omega
      rw [hBl]
      rw [← hB] at hown hr2 hov3 ⊢
      have hvl : vs.length = B.length := by have := hov3.1; omega
      refine ⟨vs ++ [u3], by simpa using hown, fun j hj => ?_⟩
      rw [nthR_snoc]
      by_cases hjB : j < B.length
      ·obtain ⟨w', y1, y2⟩ := hr2 j hjB
       rw [if_pos hjB]
       refine ⟨w', by rw [List.getElem?_append_left (by omega)]; exact y1, y2.keepB fun b s hbl hb => ?_⟩
       have hb3 := app_of (k3 _ _ hb) [O.cells [u3] 34 (some 0)]
       exact K4 b _ hb3 (hvlow b (.inr ⟨_, _, hb3⟩))
      ·have hje : j = B.length := by simp at hj; omega
       rw [if_neg hjB, if_pos hje]
       refine ⟨u3, by rw [List.getElem?_append_right (by omega), hvl, hje, Nat.sub_self]; rfl, (o3'.low lh).keepB fun b s hbl hb => ?_⟩
       have hb3 := app_of hb [O.cells [u3] 34 (some 0)]
       exact K4 b _ hb3 (hvlow b (.inr ⟨_, _, hb3⟩))
     ·have hin : i = n + 1 := by omega
      have hiN : ¬ (i : Int) ≤ n := by omega
      simp [g0, g3, g5, g6, g14, g15, g16, hwe, hiN, hwq]
      refine ⟨kk - 1, by omega, q + 1, by omega, hs, v, ?_, rfl, by omega⟩
      rw [insQ_succ _ _ hq, ← hp, hrow, ← hin]
      exact hv
    ·exact ⟨0, h, v, by omega, rfl, hs, by simpa [insA] using hv, by simp [g0, g3, g14, g15, g16]⟩
   ·have hqe : q = P.length := by omega
    subst hqe
    simp [g0, g3, g14, g15, g16, endK_ret]
    exact hv.post l1 (s1.trans hs) (Nat.le_refl _)
  ·exact ⟨0, h1, .slice none 0 0, by omega, rfl, Sub.refl _, ⟨[], OwnS.nil _ _ _ _, fun q hq => by simp [insQ] at hq⟩, by simp⟩
end Go.Proofs.Ytjlkndkedknocaa
namespace Go.Ai
theorem permLR : ∀ n, 1 ≤ n ∧ n ≤ 4 → (permL n).isPerm (permR n) = true := by
 intro n hn
 match n, hn with
 | 1, _ => decide +kernel
 | 2, _ => decide +kernel
 | 3, _ => decide +kernel
 | 4, _ => decide +kernel
 | n + 5, h => omega
theorem permLR' {n : Nat} (hn : 1 ≤ n ∧ n ≤ 4) : (permL n).Perm (permR n) := List.isPerm_iff.1 (permLR n hn)
end Go.Ai
namespace Go.Proofs.Ytjlkndkedknocaa
open Go Go.Ai
attribute [local instance] Classical.propDecidable
variable {E : Env} (hE : OE E)
include hE
theorem homs_ {n gens : Nat} {rels : List (List Int)} (hn : 1 ≤ n ∧ n ≤ 4) (hg : gens ≤ 6) (hR : ∀ i, i < rels.length → nthR rels i ≠ [] ∧ LetOk gens (nthR rels i)) {h0 : List O} {vr : Value} (hm : Mat h0 vr rels) :
  DR E 136 [.agg #[.int .i64 gens, vr], .int .i64 n] ⟨h0, h0.length⟩ (.ret (.int .i64 (cntV n (permL n) rels gens []))) ⟨h0, h0.length⟩ := by
 refine hE.fn (body := rb136) rfl ?_
 unfold rb136
 have hsc : ∀ b : Int, (Out.ret (.int .i64 b)).scalar = true := fun _ => rfl
 have hp := fun h => perms_ hE n hn.2 h
 obtain ⟨H, hH⟩ : ∃ H, H = h0 ++ [O.cells [.int .i64 gens, vr] 81 (some 0)] := ⟨_, rfl⟩
 have hs : Sub h0 H := by rw [hH]; exact (Sub.refl _).app _
 have b0 : H[h0.length]? = some (O.cells [.int .i64 gens, vr] 81 (some 0)) := by rw [hH, app_at0]; rfl
 have hperm := permLR' hn
 have hPR : ∀ q, q < (permR n).length → PermL n (nthR (permR n) q) := fun q hq => by
  have h1 : nthR (permR n) q ∈ permL n := hperm.mem_iff.2 (nthR_mem hq)
  obtain ⟨i, hi, he⟩ := List.getElem_of_mem h1
  have := permL_perm (n := n) hi
  rw [nthR_eq hi, he] at this
  exact this
 have hPl := permR_len n hn.2
 have hpow : ∀ m, m ≤ gens → (permR n).length ^ m < 2 ^ 60 := fun m hm => by
  have h1 : (permR n).length ^ m ≤ 24 ^ m := Nat.pow_le_pow_left hPl m
  have h2 : 24 ^ m ≤ 24 ^ 6 := Nat.pow_le_pow_right (by omega) (by omega)
  have h3 : (24 : Nat) ^ 6 < 2 ^ 60 := by decide
  omega
 have hcz : cntV n (permL n) rels gens [] = cntC n (permR n) rels gens [] := by
  have hok : OkC n rels [] := fun i hi he => by
   obtain ⟨h1, h2⟩ := hR i hi
   have h0 : 0 < (nthR rels i).length := List.length_pos_iff.2 h1
   have h3 := h2 0 h0
   have h4 := lastW_le (nth_mem h0)
   simp at he
   omega
  rw [cntC_eq, if_pos hok]
  exact cntV_perm hperm gens []
 simp [← hH, rdN_def, b0]
 refine (hp H).imp ?_
 rintro o ⟨h1, f1⟩ ⟨v, rfl, s1, hf1, hP⟩
 simp only at s1 hf1 hP
 have hsm : ∀ q, q < (permR n).length → SmallL (nthR (permR n) q) ∧ (nthR (permR n) q).length ≤ 1000 := fun q hq => by
  have h1 := hPR q hq
  refine ⟨fun y hy => ?_, by rw [h1.len]; omega⟩
  obtain ⟨i, hi, he⟩ := List.getElem_of_mem hy
  have := h1.rng i hi
  rw [nth_eq hi, he] at this
  omega
 have hc := counted_ hE (gens := gens) (n := n) (P := permR n) (rels := rels) (by omega) (by omega) hPR hR hpow (by omega) gens h1 [] (.slice none 0 0) v vr ⟨⟨none, 0, 0, 0, fun _ => undef, rfl, fun h => absurd h (by simp), fun i hi => absurd hi (by simp), by simp⟩, hP.mat (by omega) hsm, hm.sub (hs.trans s1), by simp, fun k hk => by simp at hk⟩
 rw [← hcz] at hc
 have hj1 : joined ⟨h1, h0.length⟩ ⟨h1, h1.length⟩ = ⟨h1, h0.length⟩ := joined_mk _ _
 simp [joined_fl, hf1, DC_of hc, hj1, endK_ret, back, hsc]
end Go.Proofs.Ytjlkndkedknocaa
namespace Go.Ai
def szL (xs : List Int) : Nat := (xs.map Int.toNat).sum
theorem szL_set : ∀ {xs : List Int} {i : Nat} (v : Int), i < xs.length → szL (xs.set i v) + (nth xs i).toNat = szL xs + v.toNat := by
 intro xs
 induction xs with
 | nil => intro i v h; simp at h
 | cons y ys ih =>
  intro i v h
  cases i with
  | zero => simp [szL, nth]; omega
  | succ i =>
   have := ih (i := i) v (by simpa using h)
   simp only [szL, List.set_cons_succ, List.map_cons, List.sum_cons] at this ⊢
   have e : nth (y :: ys) (i + 1) = nth ys i := by simp [nth]
   rw [e]
   omega
structure FixR (r : Nat → Nat) (N : Nat) (xs : List Int) : Prop where
 len : xs.length = N
 val : ∀ i, i < N → ∃ u : Nat, nth xs i = u ∧ u ≤ i ∧ r u = r i
theorem FixR.set {r : Nat → Nat} {N : Nat} {xs : List Int} (h : FixR r N xs) {i u : Nat} (hi : i < N) (hu : u ≤ i) (hr : r u = r i) : FixR r N (xs.set i u) := by
 refine ⟨by rw [List.length_set]; exact h.len, fun j hj => ?_⟩
 rw [nth_set (by rw [h.len]; exact hi)]
 by_cases e : j = i
 ·rw [if_pos e, e]; exact ⟨u, rfl, hu, hr⟩
 ·rw [if_neg e]; exact h.val j hj
theorem FixR.done {X : Nat → Nat → Nat} {n N : Nat} {xs : List Int} (h : FixR (archR X n) N xs) (hX : ∀ c, c < n → nth xs (X c 1) = nth xs (X c 3)) {i : Nat} (hi : i < N) : nth xs i = archR X n i := by
 have hr := archR_rep X n
 have e := archR_const (f := fun j => nth xs j) n hX i
 have hle := hr.le i
 obtain ⟨u, h1, h2, h3⟩ := h.val (archR X n i) (by omega)
 have h4 := hr.le u
 rw [h3, hr.idem] at h4
 rw [← e, h1]
 omega
end Go.Ai
namespace Go.Proofs.Ytjlkndkedknocaa
open Go Go.Ai
attribute [local instance] Classical.propDecidable
variable {E : Env} (hE : OE E)
include hE
theorem archesR_ {h0 : List O} {a : Option Addr} {n c : Nat} {x : Nat → Nat → Int} {s : Nat → Int} {L : Int} (hx : CrossP h0 a n x s) (hS : Snd n x s L) :
  DC E 59 [dV a n c L] ⟨h0, h0.length⟩ fun o st' => ∃ b, o = .ret (.tuple #[.slice (some ⟨b, 0, none⟩) (2 * n) (2 * n), .int .i64 (arC (dgOf n x s L) + L)]) ∧ Sub h0 st'.h ∧ h0.length ≤ st'.fl ∧ h0.length ≤ b ∧ st'.h[b]? = some (.cells (intsC (arL (dgOf n x s L))) 3 (some 0)) := by
 refine hE.fnC (body := rb59) rfl ?_
 unfold rb59
 obtain ⟨G, hGe⟩ : ∃ G, G = dgOf n x s L := ⟨_, rfl⟩
 have hG : GoodG G := by rw [hGe]; exact good_of hS
 have hGn : G.n = n := by rw [hGe]; rfl
 have hGL : G.L = L := by rw [hGe]; rfl
 have hsz := hG.size
 have hXx : ∀ i q, i < n → q < 4 → x i q = (G.X i q : Int) := fun i q hi hq => by rw [hGe]; exact sound_x hS hi hq
 have hXlt : ∀ i q, i < n → q < 4 → G.X i q < 2 * n := fun i q hi hq => by rw [← hGn]; exact hG.X i q (by rw [hGn]; exact hi) hq
 rw [← hGe]
 obtain ⟨N, hN⟩ : ∃ N, N = 2 * n := ⟨_, rfl⟩
 have hw2 : IntKind.i64.wrap (2 * (n : Int)) = (N : Int) := by rw [w64_id] <;> omega
 have e1 : (N : Int) * 8 ≤ 140737488355328 := by omega
 have e2 : (N : Int) < 4611686018427387904 := by omega
 have hrep : rep N [Value.int .i64 0] = intsC (List.replicate N 0) := by simp [rep, intsC]
 obtain ⟨F, hF⟩ : ∃ F, F = h0.length + 1 := ⟨_, rfl⟩
 obtain ⟨h1, hh1⟩ : ∃ H, H = h0 ++ [O.cells [.slice a n c, .int .i64 L] 24 (some 0)] := ⟨_, rfl⟩
 have l1 : h1.length = h0.length + 1 := by rw [hh1]; simp
 have b0 : h1[h0.length]? = some (O.cells [.slice a n c, .int .i64 L] 24 (some 0)) := by rw [hh1, app_at0]; rfl
 have s1 : Sub h0 h1 := by rw [hh1]; exact (Sub.refl _).app _
 simp only [dV]
 simp [← hh1, rd_def, b0, hw2, e1, e2, hrep, ← hN]
 rw [← l1] at hF
 rw [← hF]
 have hr := arR_rep G
 refine DW_loop (fun kk fr st => ∃ (i : Nat) (xs : List Int), i + kk = N ∧ st = ⟨h1 ++ [.cells (intsC xs) 3 (some 0)], h0.length⟩ ∧ xs.length = N ∧ (∀ j, j < N → nth xs j = if j < i then (j : Int) else 0) ∧
  get fr 1 = .pointer (some ⟨h0.length, 0, none⟩) ∧ get fr 4 = .slice (some ⟨F, 0, none⟩) N N ∧ get fr 22 = .int .i64 N ∧ get fr 23 = .int .i64 i) ?_ (k := N) ?_
 ·rintro kk fr st ⟨i, xs, hik, rfl, hxl, hxs, g1, g4, g22, g23⟩
  by_cases hi : i < N
  ·have hw : IntKind.i64.wrap ((i : Int) + 1) = (i : Int) + 1 := by rw [w64_id] <;> omega
   have hmn : min h0.length F = h0.length := by omega
   have hbF : (h1 ++ [.cells (intsC xs) 3 (some 0)])[F]? = some (O.cells (intsC xs) 3 (some 0)) := by rw [hF, app_at0]; rfl
   have hset : (h1 ++ [O.cells (intsC xs) 3 (some 0)]).set F (O.cells (intsC (xs.set i (i : Int))) 3 (some 0)) = h1 ++ [O.cells (intsC (xs.set i (i : Int))) 3 (some 0)] := by rw [hF, set_at0]; rfl
   have hi1 : i + 1 ≤ N := by omega
   simp [g1, g4, g22, g23, hi, hi1, hw, wrN_def, ↓hbF, hxl, intsC_set, hmn, ↓hset]
   refine ⟨kk - 1, by omega, i + 1, by omega, xs.set i i, rfl, by simp [hxl], fun j hj => ?_, by omega⟩
   rw [nth_set (by rw [hxl]; exact hi), hxs j hj]
   by_cases e : j = i
   ·rw [if_pos e, if_pos (by omega), e]
   ·rw [if_neg e]
    by_cases e2 : j < i
    ·rw [if_pos e2, if_pos (by omega)]
    ·rw [if_neg e2, if_neg (by omega)]
  ·have hiN : i = N := by omega
   obtain ⟨h2, hh2⟩ : ∃ H, H = h1 ++ [O.cells (intsC xs) 3 (some 0)] := ⟨_, rfl⟩
   have l2 : h2.length = h1.length + 1 := by rw [hh2]; simp
   have s2 : Sub h1 h2 := by rw [hh2]; exact (Sub.refl _).app _
   have cF : h2[F]? = some (O.cells (intsC xs) 3 (some 0)) := by rw [hh2, hF, app_at0]; rfl
   have hfix : FixR (arR G) N xs := ⟨hxl, fun j hj => ⟨j, by rw [hxs j hj, if_pos (by omega)], Nat.le_refl _, rfl⟩⟩
   simp [g1, g4, g22, g23, hiN]
   rw [← hh2]
   refine DW_loop (fun kk fr st => ∃ (h : List O) (ys : List Int) (more : Bool), st = ⟨h, h0.length⟩ ∧ Sub h1 h ∧ AtB h F (.cells (intsC ys) 3 (some 0)) ∧ FixR (arR G) N ys ∧ get fr 1 = .pointer (some ⟨h0.length, 0, none⟩) ∧ get fr 4 = .slice (some ⟨F, 0, none⟩) N N ∧ get fr 6 = .bool more ∧
    ((more = true ∧ kk = szL ys + 1) ∨ (more = false ∧ kk = 0 ∧ ∀ c, c < n → nth ys (G.X c 1) = nth ys (G.X c 3)))) ?_ (k := szL xs + 1) ?_
   ·clear g1 g4 g22 g23
    rintro kk fr st ⟨h, ys, more, rfl, hsub, aF, hfy, g1, g4, g6, hm⟩
    rcases hm with ⟨rfl, rfl⟩ | ⟨rfl, rfl, hdone⟩
    ·have c0 := hsub _ _ b0
     simp [g1, g4, g6, rd_def, ↓c0]
     refine DW_loop (fun kk' fr st => ∃ (j : Nat) (h' : List O) (zs : List Int) (ch : Bool), j + kk' = n ∧ st = ⟨h', h0.length⟩ ∧ Sub h1 h' ∧ AtB h' F (.cells (intsC zs) 3 (some 0)) ∧ FixR (arR G) N zs ∧ (ch = true → szL zs < szL ys) ∧ (ch = false → zs = ys ∧ ∀ c, c < j → nth zs (G.X c 1) = nth zs (G.X c 3)) ∧
      get fr 1 = .pointer (some ⟨h0.length, 0, none⟩) ∧ get fr 4 = .slice (some ⟨F, 0, none⟩) N N ∧ get fr 6 = .bool ch ∧ get fr 33 = .slice a n c ∧ get fr 34 = .int .i64 n ∧ get fr 35 = .int .i64 j) ?_ (k := n) ?_
     ·clear g1 g4 g6
      rintro kk' fr st ⟨j, h', zs, ch, hjk, rfl, hsub', aF', hfz, hc1, hc2, g1, g4, g6, g33, g34, g35⟩
      unfold AtB at aF'
      by_cases hj : j < n
      ·have hw : IntKind.i64.wrap ((j : Int) + 1) = (j : Int) + 1 := by rw [w64_id] <;> omega
       obtain ⟨xb, xo, hxa, hxr⟩ := hx
       obtain rfl := hxa (by omega)
       have hcr : rdN h' xb (xo + j * 5) 5 = some (crossC (x j) (s j)) := Sub.rdN (s1.trans hsub') (hxr j hj)
       rw [rdN_def] at hcr
       simp only [crossC] at hcr
       rw [hXx j 0 hj (by omega), hXx j 1 hj (by omega), hXx j 2 hj (by omega), hXx j 3 hj (by omega)] at hcr
       obtain ⟨p, hp⟩ : ∃ p, p = G.X j 1 := ⟨_, rfl⟩
       obtain ⟨q, hq⟩ : ∃ q, q = G.X j 3 := ⟨_, rfl⟩
       have hpN : p < N := by rw [hp, hN]; exact hXlt j 1 hj (by omega)
       have hqN : q < N := by rw [hq, hN]; exact hXlt j 3 hj (by omega)
       obtain ⟨u, u1, u2, u3⟩ := hfz.val p hpN
       obtain ⟨v, v1, v2, v3⟩ := hfz.val q hqN
       have hpq : arR G p = arR G q := by rw [hp, hq]; exact archR_eq G.X G.n j (by rw [hGn]; exact hj)
       have zl := hfz.len
       have gp : (intsC zs)[p]? = some (.int .i64 u) := by rw [← u1]; exact intsC_get (by omega)
       have gq : (intsC zs)[q]? = some (.int .i64 v) := by rw [← v1]; exact intsC_get (by omega)
       rw [← hp, ← hq] at hcr
       obtain ⟨h3, hh3⟩ : ∃ H, H = h' ++ [O.cells [.int .i64 (G.X j 0), .int .i64 p, .int .i64 (G.X j 2), .int .i64 q, .int .i64 (s j)] 107 (some 0)] := ⟨_, rfl⟩
       have lF := (List.getElem?_eq_some_iff.1 aF').1
       have d8 : h3[h'.length]? = some (O.cells [.int .i64 (G.X j 0), .int .i64 p, .int .i64 (G.X j 2), .int .i64 q, .int .i64 (s j)] 107 (some 0)) := by rw [hh3, app_at0]; rfl
       have dF : h3[F]? = some (O.cells (intsC zs) 3 (some 0)) := by rw [hh3]; exact app_of aF' _
       have hmn8 : min h0.length h'.length = h0.length := by have := (s1.trans hsub').len; omega
       have hmnF : min h0.length F = h0.length := by omega
       by_cases hpv : u = v
       ·subst hpv
        have hmm : maxminV false [Value.int .i64 u, .int .i64 u] = some (.int .i64 u) := by simp [maxminV, maxmin2]
        simp [g1, g4, g6, g33, g34, g35, hj, rd_def, rdN_def, hcr, wrN_at0, set_at0, hmn8, ↓← hh3, ↓d8, ↓dF, hpN, hqN, gp, gq, hmm, hw]
        refine ⟨kk' - 1, by omega, j + 1, by omega, by rw [hh3]; exact hsub'.app _, zs, dF, hfz, ?_⟩
        have heq : nth zs p = nth zs q := by rw [u1, v1]
        cases ch with
        | false =>
         obtain ⟨z1, z2⟩ := hc2 rfl
         refine .inl ⟨⟨z1, fun c hc => ?_⟩, rfl, by omega⟩
         by_cases e : c = j
         ·rw [e, ← hp, ← hq]; exact heq
         ·exact z2 c (by omega)
        | true => exact .inr ⟨hc1 rfl, rfl, by omega⟩
       ·obtain ⟨m, hm⟩ : ∃ m, m = min u v := ⟨_, rfl⟩
        have hmm : maxminV false [Value.int .i64 u, .int .i64 v] = some (.int .i64 m) := by
         simp only [maxminV, maxmin2]
         simp
         split <;> omega
        have hmc : m = u ∨ m = v := by omega
        have hmr1 : arR G m = arR G p := by
         rcases hmc with e | e
         ·rw [e]; exact u3
         ·rw [e, v3, hpq]
        have hmr2 : arR G m = arR G q := by rw [hmr1, hpq]
        have f1 := hfz.set (u := m) hpN (by omega) hmr1
        have f2 := f1.set (u := m) hqN (by omega) hmr2
        have hsz1 := szL_set (xs := zs) (i := p) (m : Int) (by omega)
        have hsz2 := szL_set (xs := zs.set p m) (i := q) (m : Int) (by rw [List.length_set]; omega)
        rw [nth_set (by omega)] at hsz2
        have hqp : q ≠ p := fun e => hpv (by rw [e] at v1; omega)
        rw [if_neg hqp, v1] at hsz2
        rw [u1] at hsz1
        have hlt : szL ((zs.set p m).set q m) < szL zs := by omega
        have hp1 : p + 1 ≤ N := by omega
        have hq1 : q + 1 ≤ N := by omega
        obtain ⟨h4, hh4⟩ : ∃ H, H = h3.set F (O.cells (intsC (zs.set p m)) 3 (some 0)) := ⟨_, rfl⟩
        have eF : h4[F]? = some (O.cells (intsC (zs.set p m)) 3 (some 0)) := by rw [hh4]; exact set_self dF
        obtain ⟨h5, hh5⟩ : ∃ H, H = h4.set F (O.cells (intsC ((zs.set p m).set q m)) 3 (some 0)) := ⟨_, rfl⟩
        have gF : h5[F]? = some (O.cells (intsC ((zs.set p m).set q m)) 3 (some 0)) := by rw [hh5]; exact set_self eF
        have hs5 : Sub h1 h5 := fun b o hb => by
         have := (List.getElem?_eq_some_iff.1 hb).1
         rw [hh5, hh4, hh3]
         exact set_ne (set_ne (app_of (hsub' _ _ hb) _) (by omega)) (by omega)
        have zl1 : (zs.set p (m : Int)).length = N := by rw [List.length_set]; omega
        have hne : ¬ (u = m ∧ v = m) := by omega
        have fin : ∃ x, AtB h5 F (O.cells (intsC x) 3 (some 0)) ∧ FixR (arR G) N x ∧ szL x < szL ys := by
         refine ⟨_, gF, f2, ?_⟩
         cases ch with
         | false => obtain ⟨z1, _⟩ := hc2 rfl; rw [← z1]; exact hlt
         | true => have := hc1 rfl; omega
        have hmi : min (u : Int) (v : Int) = (m : Int) := by omega
        by_cases hum : u = m
        ·have hvm : ¬ (v : Int) = m := by omega
         subst hum
         have hvm' : ¬ v = u := by omega
         simp [g1, g4, g6, g33, g34, g35, hj, rd_def, rdN_def, hcr, wrN_at0, set_at0, hmn8, ↓← hh3, ↓d8, ↓dF, hpN, hqN, gp, gq, hmm, hw, u1, v1, hmi, hvm, hvm', wrN_def, hp1, hq1, zl, intsC_set, hmnF, ↓← hh4, ↓eF, zl1, ↓← hh5]
         obtain ⟨xx, y1, y2, y3⟩ := fin
         exact ⟨kk' - 1, by omega, j + 1, by omega, hs5, xx, y1, y2, y3, by omega⟩
        ·simp [g1, g4, g6, g33, g34, g35, hj, rd_def, rdN_def, hcr, wrN_at0, set_at0, hmn8, ↓← hh3, ↓d8, ↓dF, hpN, hqN, gp, gq, hmm, hw, u1, v1, hmi, hum, wrN_def, hp1, hq1, zl, intsC_set, hmnF, ↓← hh4, ↓eF, zl1, ↓← hh5]
         obtain ⟨xx, y1, y2, y3⟩ := fin
         exact ⟨kk' - 1, by omega, j + 1, by omega, hs5, xx, y1, y2, y3, by omega⟩
      ·have hjn : j = n := by omega
       simp [g1, g4, g6, g33, g34, g35, hjn]
       cases ch with
       | false =>
        obtain ⟨z1, z2⟩ := hc2 rfl
        refine ⟨0, by omega, hsub', zs, aF', hfz, .inl ⟨rfl, rfl, fun c hc => z2 c (by omega)⟩⟩
       | true =>
        have := hc1 rfl
        refine ⟨szL zs + 1, by omega, hsub', zs, aF', hfz, .inr ⟨rfl, rfl⟩⟩
     ·exact ⟨0, h, ys, false, by omega, rfl, hsub, aF, hfy, (fun e => by cases e), (fun _ => ⟨rfl, fun c hc => by omega⟩), by simp [g1, g4]⟩
    ·have hval : ∀ j, j < N → nth ys j = arR G j := fun j hj => hfy.done (X := G.X) (n := G.n) (fun c hc => hdone c (by rw [← hGn]; exact hc)) hj
     have c0 := hsub _ _ b0
     have yl := hfy.len
     unfold AtB at aF
     have lF := (List.getElem?_eq_some_iff.1 aF).1
     have l01 := s1.len
     have lh := hsub.len
     obtain ⟨B, hB⟩ : ∃ B, B = h.length := ⟨_, rfl⟩
     simp [g1, g4, g6, e1, e2, hrep]
     rw [← hB]
     refine DW_loop (fun kk fr st => ∃ (i : Nat) (zs : List Int), i + kk = N ∧ st = ⟨h ++ [.cells (intsC zs) 3 (some 0)], h0.length⟩ ∧ zs.length = N ∧ (∀ j, j < i → nth zs j = arN G j) ∧
      get fr 1 = .pointer (some ⟨h0.length, 0, none⟩) ∧ get fr 12 = .slice (some ⟨B, 0, none⟩) N N ∧ get fr 13 = .int .i64 (cntR (arR G) i) ∧ get fr 80 = .slice (some ⟨F, 0, none⟩) N N ∧ get fr 81 = .int .i64 N ∧ get fr 82 = .int .i64 i) ?_ (k := N) ?_
     ·clear g1 g4 g6
      rintro kk fr st ⟨i, zs, hik, rfl, hzl, hzs, g1, g12, g13, g80, g81, g82⟩
      have bB : (h ++ [O.cells (intsC zs) 3 (some 0)])[B]? = some (O.cells (intsC zs) 3 (some 0)) := by rw [hB, app_at0]; rfl
      have bF : (h ++ [O.cells (intsC zs) 3 (some 0)])[F]? = some (O.cells (intsC ys) 3 (some 0)) := app_of aF _
      have b00 : (h ++ [O.cells (intsC zs) 3 (some 0)])[h0.length]? = some (O.cells [.slice a n c, .int .i64 L] 24 (some 0)) := app_of c0 _
      have hmB : min h0.length B = h0.length := by omega
      by_cases hi : i < N
      ·have hw : IntKind.i64.wrap ((i : Int) + 1) = (i : Int) + 1 := by rw [w64_id] <;> omega
       have hi1 : i + 1 ≤ N := by omega
       have gy : (intsC ys)[i]? = some (.int .i64 (arR G i)) := by rw [← hval i hi]; exact intsC_get (by omega)
       have hset : ∀ v : Int, (h ++ [O.cells (intsC zs) 3 (some 0)]).set B (O.cells (intsC (zs.set i v)) 3 (some 0)) = h ++ [O.cells (intsC (zs.set i v)) 3 (some 0)] := fun v => by rw [hB, set_at0]; rfl
       have hci : cntR (arR G) i ≤ i := cntP_le _ _
       have hci2 := cntR_succ (arR G) i
       have hle := hr.le i
       by_cases he : arR G i = i
       ·rw [if_pos he] at hci2
        have hwc : IntKind.i64.wrap ((cntR (arR G) i : Int) + 1) = (cntR (arR G) i : Int) + 1 := by rw [w64_id] <;> omega
        have he' : (arR G i : Int) = i := by omega
        have hNi : arN G i = cntR (arR G) i := by unfold arN; rw [he]
        simp [g1, g12, g13, g80, g81, g82, hi, hi1, hw, rd_def, ↓bF, ↓bB, gy, he, wrN_def, hzl, intsC_set, hmB, ↓hset, hwc]
        refine ⟨kk - 1, by omega, i + 1, by omega, _, rfl, by simp [hzl], fun j hj => ?_, by omega, by omega⟩
        rw [nth_set (by omega)]
        by_cases e : j = i
        ·rw [if_pos e, e, hNi]
        ·rw [if_neg e]; exact hzs j (by omega)
       ·rw [if_neg he] at hci2
        have he' : ¬ (arR G i : Int) = i := by omega
        have hrN : arR G i < N := by omega
        have gz : (intsC zs)[arR G i]? = some (.int .i64 (arN G (arR G i))) := by rw [← hzs _ (by omega)]; exact intsC_get (by omega)
        have hNi : arN G (arR G i) = arN G i := by unfold arN; rw [hr.idem]
        rw [hNi] at gz
        simp [g1, g12, g13, g80, g81, g82, hi, hi1, hw, rd_def, ↓bF, ↓bB, gy, gz, he, hrN, wrN_def, hzl, intsC_set, hmB, ↓hset]
        refine ⟨kk - 1, by omega, i + 1, by omega, _, rfl, by simp [hzl], fun j hj => ?_, by omega, by omega⟩
        rw [nth_set (by omega)]
        by_cases e : j = i
        ·rw [if_pos e, e, hzs _ (by omega), hNi]
        ·rw [if_neg e]; exact hzs j (by omega)
      ·have hiN2 : i = N := by omega
       have hwC : IntKind.i64.wrap ((cntR (arR G) N : Int) + L) = (arC G : Int) + L := by
        have h1 := arC_le G
        have h2 := hG.loops
        rw [hGL] at h2
        have h3 : cntR (arR G) N = arC G := by unfold arC; rw [hGn, ← hN]
        rw [h3, w64_id] <;> omega
       rw [hiN2] at g13 hzs
       have hzL : zs = arL G := eq_tabL (by rw [hzl, hGn, hN]) (fun j hj => hzs j (by rw [hN, ← hGn]; exact hj))
       simp [g1, g12, g13, g80, g81, g82, hiN2, rd_def, ↓b00, hwC]
       unfold pairQ back
       rw [if_neg (by simp [Out.scalar, scalar, flat1, flat])]
       exact ⟨B, rfl, (s1.trans hsub).app _, Nat.le_refl _, by omega, by rw [← hzL]; exact bB⟩
     ·exact ⟨0, List.replicate N 0, by omega, rfl, by simp, fun j hj => by omega, by simp [g1, g4, cntR, cntP]⟩
   ·exact ⟨h2, xs, true, rfl, s2, cF, hfix, by simp [g1], by simp [g4], by simp, .inl ⟨rfl, rfl⟩⟩
 ·exact ⟨0, List.replicate N 0, by omega, rfl, by simp, fun j hj => by rw [if_neg (by omega)]; simp [nth, hj], by simp⟩
end Go.Proofs.Ytjlkndkedknocaa
namespace Go.Proofs.Ytjlkndkedknocaa
open Go Go.Ai
attribute [local instance] Classical.propDecidable
variable {E : Env} (hE : OE E)
include hE
theorem presR_ {h0 : List O} {a : Option Addr} {n c : Nat} {x : Nat → Nat → Int} {s : Nat → Int} {L : Int} (hx : CrossP h0 a n x s) (hS : Snd n x s L) :
  DC E 78 [dV a n c L] ⟨h0, h0.length⟩ fun o st' => ∃ v, o = .ret (.agg #[.int .i64 (arC (dgOf n x s L) + L), v]) ∧ Sub h0 st'.h ∧ h0.length ≤ st'.fl ∧ MatN st'.h h0.length v (relL (dgOf n x s L)) := by
 refine hE.fnC (body := rb78) rfl ?_
 unfold rb78
 obtain ⟨h1, hh1⟩ : ∃ H, H = h0 ++ [O.cells [.slice a n c, .int .i64 L] 24 (some 0), O.cells [.int .i64 0, .slice none 0 0] 81 (some 0)] := ⟨_, rfl⟩
 have l1 : h1.length = h0.length + 2 := by rw [hh1]; simp
 have s1 : Sub h0 h1 := by rw [hh1]; exact (Sub.refl _).app _
 have b0 : h1[h0.length]? = some (O.cells [.slice a n c, .int .i64 L] 24 (some 0)) := by rw [hh1, app_at0]; rfl
 have b1 : h1[h0.length + 1]? = some (O.cells [.int .i64 0, .slice none 0 0] 81 (some 0)) := by rw [hh1, app_at]; rfl
 have har := archesR_ hE (c := c) (hx.sub s1) hS
 obtain ⟨G, hGe⟩ : ∃ G, G = dgOf n x s L := ⟨_, rfl⟩
 have hG : GoodG G := by rw [hGe]; exact good_of hS
 have hGn : G.n = n := by rw [hGe]; rfl
 have hGs : G.s = s := by rw [hGe]; rfl
 have hsz := hG.size
 have hXx : ∀ i q, i < n → q < 4 → x i q = (G.X i q : Int) := fun i q hi hq => by rw [hGe]; exact sound_x hS hi hq
 have hXlt : ∀ i q, i < n → q < 4 → G.X i q < 2 * n := fun i q hi hq => by rw [← hGn]; exact hG.X i q (by rw [hGn]; exact hi) hq
 rw [← hGe] at har ⊢
 simp only [dV] at har ⊢
 simp [List.append_assoc, ← hh1, rdN_def, b0]
 refine har.imp ?_
 rintro o ⟨h2, f2⟩ ⟨b, rfl, s2, hf2, hb, hof⟩
 simp only at s2 hf2 hof
 have l2 := s2.len
 have bD := s2 _ _ b0
 have bZ := s2 _ _ b1
 obtain ⟨P, hP⟩ : ∃ P, P = h2.length := ⟨_, rfl⟩
 have hmP : min h0.length P = h0.length := by omega
 simp [joined_fl, hf2, wrN_at0, set_at0, app_of bD, rd_def]
 rw [← hP, hmP]
 have hbl := (List.getElem?_eq_some_iff.1 hof).1
 refine DW_loop (fun kk fr st => ∃ (i : Nat) (h : List O) (uv : Value) (vs : List Value), i + kk = n ∧ st = ⟨h, h0.length⟩ ∧ Sub h2 h ∧ AtB h P (.cells [.int .i64 (arC G + L), uv] 81 (some 0)) ∧
  OwnS h (P + 1) uv i vs 34 1 ∧ RelsI h (P + 1) G i vs ∧
  get fr 1 = .pointer (some ⟨h0.length, 0, none⟩) ∧ get fr 2 = .pointer (some ⟨h0.length + 1, 0, none⟩) ∧ get fr 3 = .slice (some ⟨b, 0, none⟩) (2 * n) (2 * n) ∧ get fr 5 = .pointer (some ⟨P, 0, none⟩) ∧ get fr 19 = .slice a n c ∧ get fr 20 = .int .i64 n ∧ get fr 21 = .int .i64 i) ?_ (k := n) ?_
 ·rintro kk fr st ⟨i, h, uv, vs, hik, rfl, hsub, a3, hu, hR, g1, g2, g3, g5, g19, g20, g21⟩
  have b3 := a3
  unfold AtB at b3
  have hl3 := (List.getElem?_eq_some_iff.1 b3).1
  by_cases hi : i < n
  ·have hw : IntKind.i64.wrap ((i : Int) + 1) = (i : Int) + 1 := by rw [w64_id] <;> omega
   obtain ⟨xb, xo, hxa, hxr⟩ := hx
   obtain rfl := hxa (by omega)
   have hcr : rdN h xb (xo + i * 5) 5 = some (crossC (x i) (s i)) := Sub.rdN ((s1.trans s2).trans hsub) (hxr i hi)
   rw [rdN_def] at hcr
   simp only [crossC] at hcr
   rw [hXx i 0 hi (by omega), hXx i 1 hi (by omega), hXx i 2 hi (by omega), hXx i 3 hi (by omega)] at hcr
   obtain ⟨H, hH⟩ : ∃ H, H = h ++ [O.cells [.int .i64 (G.X i 0), .int .i64 (G.X i 1), .int .i64 (G.X i 2), .int .i64 (G.X i 3), .int .i64 (s i)] 107 (some 0)] := ⟨_, rfl⟩
   have hpc : H[h.length]? = some (O.cells [.int .i64 (G.X i 0), .int .i64 (G.X i 1), .int .i64 (G.X i 2), .int .i64 (G.X i 3), .int .i64 (s i)] 107 (some 0)) := by rw [hH, app_at0]; rfl
   have hlH : H.length = h.length + 1 := by rw [hH]; simp
   have hofH : H[b]? = some (O.cells (intsC (arL G)) 3 (some 0)) := by rw [hH]; exact app_of (hsub _ _ hof) _
   have x0 := hXlt i 0 hi (by omega)
   have x1 := hXlt i 1 hi (by omega)
   have x2 := hXlt i 2 hi (by omega)
   have y0 : (G.X i 0 : Int) < 2 * (n : Int) := by omega
   have y1 : (G.X i 1 : Int) < 2 * (n : Int) := by omega
   have y2 : (G.X i 2 : Int) < 2 * (n : Int) := by omega
   have hal : (arL G).length = 2 * n := by unfold arL; rw [tabL_length, hGn]
   have hgo : ∀ q, q < 4 → (intsC (arL G))[G.X i q]? = some (.int .i64 (arN G (G.X i q))) := fun q hq => by
    have hq' := hXlt i q hi hq
    rw [intsC_get (by omega)]
    unfold arL
    rw [tabL_nth (by rw [hGn]; exact hq')]
   have o0 := hgo 0 (by omega)
   have o1 := hgo 1 (by omega)
   have o2 := hgo 2 (by omega)
   have hgv : ∀ q, q < 4 → 1 ≤ gen G (G.X i q) ∧ gen G (G.X i q) ≤ 1000 := fun q hq => by
    have h1 := gen_le hG (by rw [hGn]; exact hi) hq
    have h2 := arC_le G
    rw [hGn] at h2
    omega
   have hgq : ∀ q, q < 4 → (arN G (G.X i q) : Int) + 1 = gen G (G.X i q) := fun q hq => rfl
   have v0 := hgv 0 (by omega)
   have v1 := hgv 1 (by omega)
   have v2 := hgv 2 (by omega)
   have z0 : IntKind.i64.wrap ((arN G (G.X i 0) : Int) + 1) = gen G (G.X i 0) := by rw [hgq 0 (by omega), w64_id] <;> omega
   have z1 : IntKind.i64.wrap ((arN G (G.X i 1) : Int) + 1) = gen G (G.X i 1) := by rw [hgq 1 (by omega), w64_id] <;> omega
   have z2 : IntKind.i64.wrap ((arN G (G.X i 2) : Int) + 1) = gen G (G.X i 2) := by rw [hgq 2 (by omega), w64_id] <;> omega
   have hrel : relOf G i = [-(gen G (G.X i 1)) * s i, gen G (G.X i 0), gen G (G.X i 1) * s i, -(gen G (G.X i 2))] := by unfold relOf; rw [hGs]
   have w1 : IntKind.i64.wrap (IntKind.i64.wrap (-s i) * gen G (G.X i 1)) = -(gen G (G.X i 1)) * s i := by
    rcases hS.sign i hi with e | e <;> rw [e] <;> rw [w64_id (x := -_) (by omega) (by omega)] <;> rw [w64_id] <;> omega
   have w2 : IntKind.i64.wrap (s i * gen G (G.X i 1)) = gen G (G.X i 1) * s i := by
    rcases hS.sign i hi with e | e <;> rw [e] <;> rw [w64_id] <;> omega
   have w3 : IntKind.i64.wrap (-gen G (G.X i 2)) = -(gen G (G.X i 2)) := by rw [w64_id] <;> omega
   obtain ⟨H2, hH2⟩ : ∃ H2, H2 = H ++ [O.cells (intsC (relOf G i)) 3 (some 0)] := ⟨_, rfl⟩
   have hH2' : H2 = H ++ [O.cells [.int .i64 (-(gen G (G.X i 1)) * s i), .int .i64 (gen G (G.X i 0)), .int .i64 (gen G (G.X i 1) * s i), .int .i64 (-(gen G (G.X i 2)))] 3 (some 0)] := by rw [hH2, hrel]; rfl
   have hl2 : H2.length = H.length + 1 := by rw [hH2]; simp
   have b3H : H[P]? = some (.cells [.int .i64 (arC G + L), uv] 81 (some 0)) := by rw [hH]; exact app_of b3 _
   have hmin2 : min h0.length h.length = h0.length := by omega
   have hE2 : Ext h H2 := by rw [hH2, hH]; exact (Ext.snoc _ _).trans (Ext.snoc _ _)
   have hu2 : OwnS (H2 ++ [.cells [.slice (some ⟨H.length, 0, none⟩) 4 4] 34 (some 0)]) (P + 1) uv i vs 34 1 := hu.ext (hE2.trans (Ext.snoc _ _))
   have hread : readSlice (H2 ++ [.cells [.slice (some ⟨H.length, 0, none⟩) 4 4] 34 (some 0)]) 1 1 (some ⟨H2.length, 0, none⟩) = some [.slice (some ⟨H.length, 0, none⟩) 4 4] := by simp [readSlice, rdN_at0]
   obtain ⟨b', H4, f4, happ, hb', hown, hf1, hf2', hL4, K4⟩ := append_S (fl := h0.length) (c := 1) (bytes := 24) hu2 hread (by simp) (by simp) (by simp [hl2]; omega) (by simp only [roomMax]; omega) (by omega)
   obtain rfl : f4 = h0.length := by omega
   have hne : ∀ (b : Nat), b < P + 1 → ∀ n' c', uv ≠ .slice (some ⟨b, 0, none⟩) n' c' := fun b hb n' c' e => by
    rcases hu.2 with ⟨h1, _⟩ | ⟨b2, s2, h1, h2, _⟩
    ·rw [e] at h1; cases h1
    ·rw [e] at h1
     simp only [Value.slice.injEq, Option.some.injEq, Addr.mk.injEq] at h1
     omega
   have hnei : ∀ (b : Nat) (cs : List Value) (ow : Option Nat), H2[b]? = some (.cells cs 3 ow) → ∀ n' c', uv ≠ .slice (some ⟨b, 0, none⟩) n' c' := fun b cs ow hb n' c' e => by
    rcases hu.2 with ⟨h1, _⟩ | ⟨b2, s2, h1, h2, h3, _⟩
    ·rw [e] at h1; cases h1
    ·rw [e] at h1
     simp only [Value.slice.injEq, Option.some.injEq, Addr.mk.injEq] at h1
     obtain ⟨l, hl⟩ := hE2
     rw [h1.1.1, hl, app_of h3] at hb
     cases hb
   have kB : ∀ (b : Nat) (o : O), h[b]? = some o → (∀ n' c', uv ≠ .slice (some ⟨b, 0, none⟩) n' c') → H4[b]? = some o := fun b o hb hn => by
    obtain ⟨l, hl⟩ := hE2
    exact K4 b o (by rw [hl, List.append_assoc]; exact app_of hb _) hn
   have k3' := kB _ _ b3 (hne _ (by omega))
   rw [hl2] at happ
   have happ2 := happ
   simp only [hH2', List.append_assoc, List.cons_append, List.nil_append] at happ2
   simp [g1, g2, g3, g5, g19, g20, g21, hi, rdN_def, hcr, wrN_at0, set_at0, app_at0, ← hH, ← hlH, hpc, hofH, x0, x1, x2, y0, y1, y2, o0, o1, o2, z0, z1, z2, bit, rd_def, w1, w2, w3, hmin2, b3H, happ2, wrN_def, k3', hmP, hw]
   refine ⟨kk - 1, by omega, i + 1, by omega, fun b o hb => ?_, .slice (some ⟨b', 0, none⟩) (i + 1) (i + 1), ?_, vs ++ [.slice (some ⟨H.length, 0, none⟩) 4 4], ?_, fun q hq => ?_, by omega⟩
   ·have hbl := (List.getElem?_eq_some_iff.1 hb).1
    exact set_ne (kB b o (hsub b o hb) (hne _ (by omega))) (by omega)
   ·exact set_self k3'
   ·exact hown.keep fun b s' e1 e2 => set_ne e2 (by
     simp at e1 hb'
     omega)
   ·by_cases e : q < i
    ·obtain ⟨b, r1, r2, r3⟩ := hR q e
     have hvl : vs.length = i := by have := hu.1; omega
     refine ⟨b, by rw [List.getElem?_append_left (by omega)]; exact r1, r2, set_ne (kB b _ r3 (hnei b (intsC (relOf G q)) (some 0) ?_)) (by omega)⟩
     obtain ⟨l, hl⟩ := hE2
     rw [hl]; exact app_of r3 _
    ·have hqi : q = i := by omega
     subst hqi
     have hvl : vs.length = q := by have := hu.1; omega
     have hin : H2[H.length]? = some (O.cells (intsC (relOf G q)) 3 (some 0)) := by rw [hH2, app_at0]; rfl
     refine ⟨H.length, by rw [List.getElem?_append_right (by omega), hvl]; simp, by omega, set_ne (K4 _ _ (app_of hin _) (hnei _ _ _ hin)) (by omega)⟩
  ·have hin : i = n := by omega
   subst hin
   have bZh := hsub _ _ bZ
   have bZs := fun o => set_self (x := o) bZh
   have hmZ : min h0.length (h0.length + 1) = h0.length := by omega
   have hone : one1 uv = true := by rcases hu.2 with ⟨h1, _⟩ | ⟨b, su, h1, _⟩ <;> rw [h1] <;> rfl
   simp [g1, g2, g3, g5, g19, g20, g21, rdN_def, b3, wrN_def, bZh, bZs, hone]
   unfold pairQ back
   have hvl : vs.length = i := by have := hu.1; omega
   have hM : ∀ h', (∀ (b : Nat) (o : O), P + 1 ≤ b → h[b]? = some o → h'[b]? = some o) → Mat h' uv (relL G) := fun h' hk => by
    have hi200 : (relL G).length = i := by rw [relL_length, hGn]
    rcases hu.2 with ⟨h1, h2⟩ | ⟨b, su, h1, h2, h3, _⟩
    ·have : relL G = [] := List.length_eq_zero_iff.1 (by omega)
     rw [h1, this]
     exact ⟨none, 0, 0, 0, fun _ => undef, rfl, fun h => absurd h (by simp), fun i hi => absurd hi (by simp), by simp⟩
    ·refine ⟨some ⟨b, 0, none⟩, b, 0, i, fun q => (vs[q]?).getD undef, by rw [h1, hi200], fun _ => rfl, fun q hq => ?_, by omega⟩
     obtain ⟨b', r1, r2, r3⟩ := hR q (by omega)
     have h3' := hk _ _ (by omega) h3
     have r3' := hk _ _ r2 r3
     refine ⟨by rw [rd_def, h3']; simp [r1], ?_⟩
     rw [relL_nth (by omega)]
     simp only [r1, Option.getD_some]
     refine ⟨some ⟨b', 0, none⟩, b', 0, 4, rfl, fun _ => rfl, fun j hj => ?_, fun j => ?_, ?_⟩
     ·rw [rd_def, r3']
      simp only [rdO_cells, Nat.zero_add]
      exact intsC_get hj
     ·have := relOf_small hG (i := q) (by omega) j
      constructor <;> omega
     ·simp [relOf]
   have hM0 := hM h fun _ _ _ hb => hb
   have hs0h : Sub h0 h := (s1.trans s2).trans hsub
   split
   ·rename_i hc
    refine ⟨_, rfl, Sub.refl _, Nat.le_refl _, fun h' _ => Mat.flat hM0 ?_⟩
    simp [Out.scalar, scalar, flat1] at hc
    exact hc.2
   ·exact ⟨_, rfl, (hs0h.set (by omega) _), Nat.le_refl _, fun h' hk => hM h' fun b o hb ho => hk b o (by omega) (set_ne ho (by omega))⟩
 ·refine ⟨0, _, .slice none 0 0, [], by omega, rfl, (Sub.refl h2).app _, ?_, OwnS.nil _ _ _ _, fun q hq => by omega, by simp⟩
  unfold AtB; rw [hP, app_at0]; rfl
end Go.Proofs.Ytjlkndkedknocaa
namespace Go.Ai
def fctN : Nat → Nat
 | 0 => 1
 | n + 1 => fctN n * (n + 1)
theorem permL_fct : ∀ n, 1 ≤ n ∧ n ≤ 4 → (permL n).length = fctN n := by
 intro n hn
 match n, hn with
 | 1, _ => decide +kernel
 | 2, _ => decide +kernel
 | 3, _ => decide +kernel
 | 4, _ => decide +kernel
 | n + 5, h => omega
theorem fctN_le : ∀ n, n ≤ 4 → 1 ≤ fctN n ∧ fctN n ≤ 24 := by decide
end Go.Ai
namespace Go.Proofs.Ytjlkndkedknocaa
open Go Go.Ai
attribute [local instance] Classical.propDecidable
variable {E : Env} (hE : OE E)
include hE
theorem countR_ {h0 : List O} {a : Option Addr} {n c : Nat} {x : Nat → Nat → Int} {s : Nat → Int} {L k : Int} (hx : CrossP h0 a n x s) (hfew : kindD n x s L = 0 → genN (dgOf n x s L) ≤ 6 ∧ ¬ (4 < k ∧ k ≤ 6)) :
  DR E 60 [dV a n c L, .int .i64 k] ⟨h0, h0.length⟩ (.ret (.tuple #[.int .i64 (countA n x s L k).1, .int .i64 (countA n x s L k).2])) ⟨h0, h0.length⟩ := by
 refine hE.fn (body := rb60) rfl ?_
 unfold rb60
 have hsc : ∀ y z : Int, (Out.ret (.tuple #[.int .i64 y, .int .i64 z])).scalar = true := fun _ _ => rfl
 obtain ⟨h1, hh1⟩ : ∃ H, H = h0 ++ [O.cells [.slice a n c, .int .i64 L] 24 (some 0)] := ⟨_, rfl⟩
 have l1 : h1.length = h0.length + 1 := by rw [hh1]; simp
 have s1 : Sub h0 h1 := by rw [hh1]; exact (Sub.refl _).app _
 have b1 : h1[h0.length]? = some (O.cells [.slice a n c, .int .i64 L] 24 (some 0)) := by rw [hh1, app_at0]; rfl
 have hx1 := hx.sub s1
 have hc1 := checkR_ hE (c := c) (L := L) hx1
 have hj1 : joined ⟨h1, h0.length⟩ ⟨h1, h1.length⟩ = ⟨h1, h0.length⟩ := joined_mk _ _
 simp only [dV] at hc1 ⊢
 by_cases hk : kindD n x s L = 0
 ·by_cases hk6 : 1 ≤ k ∧ k ≤ 6
  ·obtain ⟨hg6, hk4⟩ := hfew hk
   obtain ⟨m, rfl⟩ : ∃ m : Nat, k = m := ⟨k.toNat, by omega⟩
   have hm : 1 ≤ m ∧ m ≤ 4 := by omega
   have hS := (kind_zero hk).1
   have nl1 : ¬ ((m : Int) < 1) := by omega
   have ng6 : ¬ (6 < (m : Int)) := by omega
   have nl1' : ¬ m < 1 := by omega
   have ng6' : ¬ 6 < m := by omega
   have hcA : countA n x s L (m : Int) = if ¬ FewA (permL m).length (genN (dgOf n x s L)) then (0, 2) else ((cntD (dgOf n x s L) m : Int), 0) := by
    unfold countA
    rw [if_neg (by simp [hk]), if_neg (by simp; omega)]
    rfl
   rw [hcA]
   obtain ⟨G, hGe⟩ : ∃ G, G = dgOf n x s L := ⟨_, rfl⟩
   have hG : GoodG G := by rw [hGe]; exact good_of hS
   have hGn : G.n = n := by rw [hGe]; rfl
   have hGL : G.L = L := by rw [hGe]; rfl
   have hloops := hG.loops
   have hac := arC_le G
   have hsz := hG.size
   have hpr := presR_ hE (c := c) (L := L) hx1 hS
   rw [← hGe] at hpr hg6 ⊢
   obtain ⟨g, hg⟩ : ∃ g, g = genN G := ⟨_, rfl⟩
   have hg' : (arC G : Int) + L = (g : Int) := by rw [hg, ← hGL]; unfold genN; omega
   rw [hg'] at hpr
   rw [← hg] at hg6 ⊢
   obtain ⟨P, hP⟩ : ∃ P, P = (permL m).length := ⟨_, rfl⟩
   have hPf : P = fctN m := by rw [hP]; exact permL_fct m hm
   have hPl := fctN_le m hm.2
   rw [← hP]
   obtain ⟨zz, hzz⟩ : ∃ zz, zz = (if ¬ FewA P g then ((0 : Int), (2 : Int)) else ((cntD G m : Int), 0)) := ⟨_, rfl⟩
   rw [← hzz]
   simp only [dV] at hpr
   simp [← hh1, rdN_def, b1, DC_of hc1, hk, hj1, nl1, ng6, nl1', ng6']
   refine hpr.imp ?_
   rintro o ⟨h2, f2⟩ ⟨v2, rfl, s2, hf2, hM2⟩
   simp only at s2 hf2 hM2
   obtain ⟨va4, vb4, vo4, vc4, vs4, hv4, _⟩ := mat_at hM2.mat
   have one4 : one1 v2 = true := by rw [hv4]; rfl
   have cs4 : v2.cells = #[v2] := by rw [hv4]; rfl
   obtain ⟨h3, hh3⟩ : ∃ H, H = h2 ++ [O.cells [.int .i64 g, v2] 81 (some 0)] := ⟨_, rfl⟩
   have s3 : Sub h2 h3 := by rw [hh3]; exact (Sub.refl _).app _
   have b3 : h3[h2.length]? = some (O.cells [.int .i64 g, v2] 81 (some 0)) := by rw [hh3, app_at0]; rfl
   have l2 := s2.len
   have hmin : min h0.length h2.length = h0.length := by omega
   obtain ⟨Q, hQ⟩ : ∃ Q, Q = h2.length := ⟨_, rfl⟩
   simp [joined_fl, hf2, wrN_at0, set_at0, one4, cs4, ↓← hh3, hmin]
   rw [← hQ] at b3
   rw [← hQ]
   refine DW_loop (fun kk fr st => ∃ (i : Nat), i + kk = m + 1 ∧ 2 ≤ i ∧ st = ⟨h3, h0.length⟩ ∧ get fr 1 = .int .i64 m ∧ get fr 7 = .pointer (some ⟨Q, 0, none⟩) ∧ get fr 8 = .int .i64 1 ∧ get fr 9 = .int .i64 (fctN (i - 1)) ∧ get fr 10 = .int .i64 i) ?_ (k := m - 1) ?_
   ·rintro kk fr st ⟨i, hik, hi2, rfl, g1, g7, g8, g9, g10⟩
    by_cases hi : i ≤ m
    ·have hi' : (i : Int) ≤ m := by omega
     have hwi : IntKind.i64.wrap ((i : Int) + 1) = (i : Int) + 1 := by rw [w64_id] <;> omega
     have hf : fctN (i + 1 - 1) = fctN (i - 1) * i := by
      obtain ⟨j, rfl⟩ : ∃ j, i = j + 1 := ⟨i - 1, by omega⟩
      rfl
     have hfb := (fctN_le (i + 1 - 1) (by omega)).2
     have hwf : IntKind.i64.wrap ((fctN (i - 1) : Int) * i) = (fctN (i + 1 - 1) : Nat) := by
      rw [← Int.natCast_mul, ← hf, w64_id] <;> omega
     simp only [Nat.add_sub_cancel] at hwf
     simp [g1, g7, g8, g9, g10, hi, hi', hwf, hwi]
     exact ⟨kk - 1, by omega, i + 1, by omega, by omega, rfl, by omega⟩
    ·have hi' : ¬ (i : Int) ≤ m := by omega
     have him : i - 1 = m := by omega
     rw [him, ← hPf] at g9
     rw [← hPf] at hPl
     have hp1 : 1 ≤ P := hPl.1
     simp [g1, g7, g8, g9, g10, hi, hi']
     refine DW_loop (fun kk' fr st => ∃ (j : Nat), j + kk' = g ∧ st = ⟨h3, h0.length⟩ ∧ (∀ t, t < j → P ^ (t + 1) ≤ 2000000) ∧ get fr 1 = .int .i64 m ∧ get fr 7 = .pointer (some ⟨Q, 0, none⟩) ∧ get fr 8 = .int .i64 (P ^ j : Nat) ∧ get fr 9 = .int .i64 P ∧ get fr 11 = .int .i64 j) ?_ (k := g) ?_
     ·clear g1 g7 g8 g9 g10
      rintro kk' fr st ⟨j, hjk, rfl, hd, g1, g7, g8, g9, g11⟩
      have hPj : P ^ j ≤ 2000000 := by
       cases j with
       | zero => simp
       | succ j => exact hd j (by omega)
      by_cases hj : j < g
      ·have hwj : IntKind.i64.wrap ((j : Int) + 1) = (j : Int) + 1 := by rw [w64_id] <;> omega
       have hmul : P ^ j * P ≤ 2000000 * 24 := Nat.mul_le_mul hPj hPl.2
       have hwp : IntKind.i64.wrap (((P ^ j : Nat) : Int) * P) = (P ^ (j + 1) : Nat) := by
        rw [Nat.pow_succ, Int.natCast_mul, w64_id] <;> omega
       obtain ⟨X, hX⟩ : ∃ X, X = P ^ (j + 1) := ⟨_, rfl⟩
       obtain ⟨Y, hY⟩ : ∃ Y, Y = P ^ j := ⟨_, rfl⟩
       rw [← hX, ← hY] at hwp
       rw [← hY] at g8
       by_cases hb : 2000000 < X
       ·have hn : ¬ FewA P g := fun hf => by have := hf j hj; omega
        rw [if_pos hn] at hzz
        have hb' : (2000000 : Int) < X := by omega
        subst hzz
        simp [g1, g7, g8, g9, g11, hj, rd_def, b3, hwp, hb, hb', endK_ret, back, hsc]
       ·have hb' : ¬ (2000000 : Int) < X := by omega
        simp [g1, g7, g8, g9, g11, hj, rd_def, b3, hwp, hb, hb', hwj]
        refine ⟨kk' - 1, by omega, j + 1, by omega, fun t ht => ?_, by rw [hX, Int.natCast_pow], by omega⟩
        by_cases e : t = j
        ·rw [e, ← hX]; omega
        ·exact hd t (by omega)
      ·have hjg : j = g := by omega
       have hy : FewA P g := fun t ht => hd t (by omega)
       have hmz : zz = ((cntD G m : Int), 0) := by rw [hzz, if_neg (by simp [hy])]
       have hrel : ∀ i, i < (relL G).length → nthR (relL G) i ≠ [] ∧ LetOk g (nthR (relL G) i) := fun i hi => by
        rw [relL_length] at hi
        rw [relL_nth hi]
        exact ⟨by simp [relOf], relOf_let hG hi (by omega)⟩
       have hh := homs_ hE (gens := g) hm hg6 hrel (hM2.mat.sub s3)
       have hcd : cntV m (permL m) (relL G) g [] = cntD G m := by unfold cntD; rw [← hg]
       rw [hcd] at hh
       have hj3 : joined ⟨h3, h0.length⟩ ⟨h3, h3.length⟩ = ⟨h3, h0.length⟩ := joined_mk _ _
       subst hmz
       simp [g1, g7, g8, g9, g11, hjg, rd_def, b3, rdN_def, DC_of hh, hj3, endK_ret, back, hsc]
     ·exact ⟨0, by omega, rfl, fun t ht => by omega, by simp [g1, g7, g8, g9]⟩
   ·exact ⟨2, by omega, by omega, rfl, by simp [fctN]⟩
  ·unfold countA
   rw [if_neg (by simp [hk]), if_pos hk6]
   by_cases k1 : k < 1
   ·simp [← hh1, rdN_def, b1, DC_of hc1, hk, hj1, k1, endK_ret, back, hsc]
   ·have k2 : 6 < k := by omega
    simp [← hh1, rdN_def, b1, DC_of hc1, hk, hj1, k1, k2, endK_ret, back, hsc]
 ·unfold countA
  rw [if_pos hk]
  simp [← hh1, rdN_def, b1, DC_of hc1, hk, hj1, endK_ret, back, hsc]
end Go.Proofs.Ytjlkndkedknocaa
