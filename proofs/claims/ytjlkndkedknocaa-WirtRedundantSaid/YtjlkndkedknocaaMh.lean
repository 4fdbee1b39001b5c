/- Texts that were built one by one: Wb1, Wb2, Wb3, Wb4, Wb5, Wr9, Wr10, Wr11, Wr8, Wo0, Wo1, AiO, Wo2, Wc4, Wc5, Wc6, Wc7, Wc8. -/
import Derived.Test.YtjlkndkedknocaaMf
import Derived.Test.YtjlkndkedknocaaMd
import Derived.Test.YtjlkndkedknocaaMg
import Derived.Test.YtjlkndkedknocaaMe
import Derived.KernelRfl
set_option linter.unusedSimpArgs false
set_option linter.unusedVariables false
namespace Go.Ai
theorem pw_eq {α : Type} {f : α → Nat} : ∀ {l : List α}, l.Pairwise (fun x y => f x ≠ f y) → ∀ {x y : α}, x ∈ l → y ∈ l → f x = f y → x = y
 | [], _, x, _, h, _, _ => by simp at h
 | z :: l, hp, x, y, hx, hy, e => by
  rw [List.pairwise_cons] at hp
  rcases List.mem_cons.1 hx with hx | hx
  ·rcases List.mem_cons.1 hy with hy | hy
   ·rw [hx, hy]
   ·rw [hx] at e; exact absurd e (hp.1 y hy)
  ·rcases List.mem_cons.1 hy with hy | hy
   ·rw [hy] at e; exact absurd e.symm (hp.1 x hx)
   ·exact pw_eq hp.2 hx hy e
theorem nodup_le : ∀ {s l : List Nat}, s.Nodup → (∀ b ∈ s, b ∈ l) → s.length ≤ l.length
 | [], l, _, _ => by simp
 | x :: s, l, h1, h2 => by
  rw [List.nodup_cons] at h1
  have hx := h2 x (by simp)
  have h3 := nodup_le (s := s) (l := l.erase x) h1.2 fun b hb => (List.mem_erase_of_ne (fun e => by rw [e] at hb; exact h1.1 hb)).2 (h2 b (by simp [hb]))
  rw [List.length_erase_of_mem hx] at h3
  have := List.length_pos_of_mem hx
  simp; omega
end Go.Ai
namespace Go.Proofs.Ytjlkndkedknocaa
open Go Go.Ai
attribute [local instance] Classical.propDecidable
theorem lE_born {X : Nat → Nat → Nat} {s : Nat → Int} : ∀ {c : Nat}, ∀ y ∈ lE X s c, y.2.2 < 2 * c := by
 intro c
 induction c with
 | zero => intro y h; simp [lE] at h
 | succ c ih =>
  intro y h
  simp only [lE, List.mem_append, List.mem_singleton] at h
  rcases h with (h | rfl) | rfl
  ·have := ih y h; omega
  ·simp only; omega
  ·simp only; omega
theorem lE_pw (X : Nat → Nat → Nat) (s : Nat → Int) : ∀ c, (lE X s c).Pairwise fun x y => x.2.2 ≠ y.2.2 := by
 intro c
 induction c with
 | zero => exact List.Pairwise.nil
 | succ c ih =>
  simp only [lE]
  rw [List.pairwise_append, List.pairwise_append]
  refine ⟨⟨ih, List.pairwise_singleton _ _, fun x hx y hy => ?_⟩, List.pairwise_singleton _ _, fun x hx y hy => ?_⟩
  ·simp at hy
   rw [hy]
   have := lE_born x hx
   simp only; omega
  ·simp at hy
   rw [hy]
   rcases List.mem_append.1 hx with hx | hx
   ·have := lE_born x hx
    simp only; omega
   ·simp at hx
    rw [hx]; simp
theorem lE_length (X : Nat → Nat → Nat) (s : Nat → Int) : ∀ c, (lE X s c).length = 2 * c := by
 intro c
 induction c with
 | zero => rfl
 | succ c ih => simp [lE, ih]; omega
theorem lE_is {X : Nat → Nat → Nat} {s : Nat → Int} : ∀ {n : Nat}, ∀ y ∈ lE X s n, ∃ c p, c < n ∧ (p = 0 ∨ p = inP (s c)) ∧ y.1 = (c, p) ∧ y.2.1 = .int .i64 (X c p) := by
 intro n
 induction n with
 | zero => intro y h; simp [lE] at h
 | succ n ih =>
  intro y h
  simp only [lE, List.mem_append, List.mem_singleton] at h
  rcases h with (h | rfl) | rfl
  ·obtain ⟨c, p, h1, h2⟩ := ih y h
   exact ⟨c, p, by omega, h2⟩
  ·exact ⟨n, 0, by omega, .inl rfl, rfl, rfl⟩
  ·exact ⟨n, _, by omega, .inr rfl, rfl, rfl⟩
theorem lE_has {X : Nat → Nat → Nat} {s : Nat → Int} : ∀ {n c p : Nat}, c < n → (p = 0 ∨ p = inP (s c)) → ∃ b, ((c, p), Value.int .i64 (X c p), b) ∈ lE X s n := by
 intro n
 induction n with
 | zero => intro c p h; omega
 | succ n ih =>
  intro c p hc hp
  simp only [lE, List.mem_append, List.mem_singleton]
  by_cases e : c < n
  ·obtain ⟨b, hb⟩ := ih e hp
   exact ⟨b, .inl (.inl hb)⟩
  ·obtain rfl : c = n := by omega
   rcases hp with rfl | rfl
   ·exact ⟨_, .inl (.inr rfl)⟩
   ·exact ⟨_, .inr rfl⟩
def finT (G : Dg) (a : Nat) : Nat × Nat := (G.T a 2, G.T a 3)
def finL (G : Dg) : List (Nat × Nat) := (List.range (2 * G.n)).map (finT G)
theorem in_place {s : Int} (hs : s = 1 ∨ s = -1) {p : Nat} : ((p = 0 ∨ p = inP s) ↔ p < 4 ∧ outB s p = false) := by
 rcases hs with rfl | rfl
 ·constructor
  ·rintro (rfl | rfl)
   ·exact ⟨by omega, rfl⟩
   ·exact ⟨by decide, rfl⟩
  ·rintro ⟨h1, h2⟩
   match p, h1 with
   | 0, _ => exact .inl rfl
   | 1, _ => simp [outB] at h2
   | 2, _ => simp [outB] at h2
   | 3, _ => exact .inr rfl
 ·constructor
  ·rintro (rfl | rfl)
   ·exact ⟨by omega, rfl⟩
   ·exact ⟨by decide, rfl⟩
  ·rintro ⟨h1, h2⟩
   match p, h1 with
   | 0, _ => exact .inl rfl
   | 1, _ => exact .inr rfl
   | 2, _ => simp [outB] at h2
   | 3, _ => simp [outB] at h2
theorem fin_of {G : Dg} (hG : GoodG G) {c p : Nat} (hc : c < G.n) (hp : p < 4) (ho : outB (G.s c) p = false) : finT G (G.X c p) = (c, p) := by
 have ha := hG.X c p hc hp
 rcases hG.cover c p hc hp with ⟨h1, h2⟩ | ⟨h1, h2⟩
 ·have := (hG.dir _ ha).1
  rw [← h1, ← h2, ho] at this
  cases this
 ·unfold finT; rw [← h1, ← h2]
theorem cellsL_len (l : List (Nat × Nat)) : (cellsL l).length = l.length * 2 := by
 induction l with
 | nil => rfl
 | cons y l ih => show (cells2 y ++ cellsL l).length = _; rw [List.length_append, ih]; simp [cells2]; omega
theorem cellsL_set {e : List (Nat × Nat)} {a : Nat} {x : Nat × Nat} (ha : a < e.length) : setL (cellsL e) (a * 2) (cells2 x) = cellsL (e.set a x) := by
 induction e generalizing a with
 | nil => simp at ha
 | cons y l ih =>
  cases a with
  | zero => simp [cellsL, cells2]
  | succ a =>
   have h := ih (a := a) (by simpa using ha)
   have e1 : cellsL (y :: l) = cells2 y ++ cellsL l := rfl
   have e2 : cellsL ((y :: l).set (a + 1) x) = cells2 y ++ cellsL (l.set a x) := rfl
   rw [e1, e2, ← h]
   simp [cells2, show (a + 1) * 2 = a * 2 + 2 by omega]
def walkM (h0 : List O) (pl : Nat) (i : Int) (G : Dg) : List O :=
 (h0 ++ [.cells [.pointer (some ⟨pl, 0, none⟩)] 155 (some 0), .cells [.int .i64 i] 3 (some 0), .cells (cellsL (finL G)) 72 (some 0), .cells [.slice (some ⟨h0.length + 2, 0, none⟩) (2 * G.n) (2 * G.n)] 215 (some 0)]) ++ List.replicate (1 + 2 * G.n) .dead
def walkV (h0 : List O) : Value := .func (.func 212) #[] #[.pointer (some ⟨h0.length + 1, 0, none⟩), .pointer (some ⟨h0.length + 3, 0, none⟩), .pointer (some ⟨h0.length, 0, none⟩)]
structure WkI (h0 : List O) (pl : Nat) (i : Int) (N mb : Nat) (es : List MapEntry) (fin : Nat → Nat × Nat) (seen : List Nat) (H : List O) (e : List (Nat × Nat)) : Prop where
 sub : Sub h0 H
 b0 : AtB H h0.length (.cells [.pointer (some ⟨pl, 0, none⟩)] 155 (some 0))
 b1 : AtB H (h0.length + 1) (.cells [.int .i64 i] 3 (some 0))
 b2 : AtB H (h0.length + 2) (.cells (cellsL e) 72 (some 0))
 b3 : AtB H (h0.length + 3) (.cells [.slice (some ⟨h0.length + 2, 0, none⟩) N N] 215 (some 0))
 b4 : AtB H (h0.length + 4) (.iter (some mb) N seen N)
 len : H.length = h0.length + 5 + seen.length
 own : ∀ b o, h0.length + 5 ≤ b → H[b]? = some o → o.ro = false
 el : e.length = N
 met : ∀ y ∈ es, y.born ∈ seen → ∀ a : Nat, y.val = .int .i64 a → e[a]? = some (fin a)
 nd : seen.Nodup
 mem : ∀ b ∈ seen, ∃ y ∈ es, y.born = b
variable {E : Env} (hE : OE E)
include hE
theorem walk_ (hW : E.S 148 = none) {h0 : List O} {pl n : Nat} {x : Nat → Nat → Int} {s : Nat → Int} {L : Int} (hl : LnkP h0 pl n x s L) (hS : Snd n x s L) (i : Int) :
  PC E 148 [.pointer (some ⟨pl, 0, none⟩), .int .i64 i] ⟨h0, h0.length⟩ fun o s' => o = .ret (walkV h0) ∧ WeakK 4 ⟨h0, h0.length⟩ s' ⟨walkM h0 pl i (dgOf n x s L), h0.length⟩ := by
 refine PC_fn (hE.F _ _ rfl) hW ?_
 obtain ⟨G, hGe⟩ : ∃ G, G = dgOf n x s L := ⟨_, rfl⟩
 have hG : GoodG G := by rw [hGe]; exact good_of hS
 have hGn : G.n = n := by rw [hGe]; rfl
 have hGs : G.s = s := by rw [hGe]; rfl
 have hsz := hS.size
 obtain ⟨uv, xa, xc, ab, cb, mb, k1, k2, k3, k4, k5, hO, hk'⟩ := hl
 rw [← hGe] at k1 k3 k5 ⊢
 unfold linkC at k1
 obtain ⟨N, hN⟩ : ∃ N, N = 2 * n := ⟨_, rfl⟩
 rw [← hN] at k1 k5
 have hpl := (List.getElem?_eq_some_iff.1 k1).1
 have hk1 : ∀ l, (h0 ++ l)[pl]? = _ := fun l => app_of k1 l
 have e1 : (N : Int) * 16 ≤ 140737488355328 := by omega
 have e2 : (N : Int) < 4611686018427387904 := by omega
 unfold rb148
 refine PW_seqD ?_
 simp
 refine PW_seqD ?_
 simp [rd_at0, rd_at, rd_def, hk1, e1, e2, wrN_at, set_at, List.append_assoc]
 refine PW_seq (PW_seqD ?_)
 obtain ⟨H, hH⟩ : ∃ H, H = h0 ++ [O.cells [.pointer (some ⟨pl, 0, none⟩)] 155 (some 0), .cells [.int .i64 i] 3 (some 0), .cells (rep N [.int .i64 0, .int .i64 0]) 72 (some 0), .cells [.slice (some ⟨h0.length + 2, 0, none⟩) N N] 215 (some 0)] := ⟨_, rfl⟩
 have hlH : H.length = h0.length + 4 := by rw [hH]; simp
 rw [← hH]
 have hb0 : H[h0.length]? = some (.cells [.pointer (some ⟨pl, 0, none⟩)] 155 (some 0)) := by rw [hH, app_at0]; rfl
 have hm0 : H[mb]? = some (.map ((lE G.X s n).map (entG kcII)) N) := by rw [hH]; exact app_of k5 _
 have hp0 : H[pl]? = h0[pl]? := by rw [hH]; exact List.getElem?_append_left hpl
 rw [k1] at hp0
 have eI := rangeVS_ent (f := h0.length) hm0
 simp [rd_def, hb0, hp0, eI]
 have hGN : 2 * G.n = N := by rw [hGn, hN]
 have hpw : ((lE G.X s n).map (entG kcII)).Pairwise fun x y => x.born ≠ y.born := by
  rw [List.pairwise_map]; exact lE_pw _ _ _
 have hallk : ((lE G.X s n).map (entG kcII)).all (fun e => plain1 e.key) = true := by
  rw [List.all_map, List.all_eq_true]; intro y _; rfl
 have hmbl := (List.getElem?_eq_some_iff.1 k5).1
 refine PW_walkE (es := (lE G.X s n).map (entG kcII)) (bm := mb) (r := h0.length + 4) (clock := N) (seen := []) hpw hallk (fun seen fr H => (∃ e, WkI h0 pl i N mb ((lE G.X s n).map (entG kcII)) (finT G) seen H e) ∧ get fr 2 = .pointer (some ⟨h0.length, 0, none⟩) ∧ get fr 3 = .pointer (some ⟨h0.length + 1, 0, none⟩) ∧ get fr 5 = .pointer (some ⟨h0.length + 3, 0, none⟩) ∧ get fr 18 = .pointer (some ⟨h0.length + 4, 0, none⟩)) (by decide) (by omega) ?_ ?_ ?_ ?_
 ·rintro seen fr H ⟨⟨e, hI⟩, g2, g3, g5, g18⟩
  exact ⟨g18, hI.b4, hI.sub _ _ k5⟩
 ·rintro seen fr H y ⟨⟨e, hI⟩, g2, g3, g5, g18⟩ hy hys
  obtain ⟨z, hz, rfl⟩ := List.mem_map.1 hy
  obtain ⟨c, p, hc, hp, hz1, hz2⟩ := lE_is z hz
  have hq := (in_place (hS.sign c hc)).1 hp
  have hX := hG.X c p (by rw [hGn]; exact hc) hq.1
  have hfin := fin_of hG (by rw [hGn]; exact hc) hq.1 (by rw [hGs]; exact hq.2)
  have hXN : G.X c p < N := by rw [← hGN]; exact hX
  have b2 := hI.b2
  have b3 := hI.b3
  have b4 := hI.b4
  unfold AtB at b2 b3 b4
  have hHl := hI.len
  obtain ⟨H2, hH2⟩ : ∃ H2, H2 = H.set (h0.length + 4) (.iter (some mb) N (seen ++ [z.2.2]) N) := ⟨_, rfl⟩
  have hl2 : H2.length = H.length := by rw [hH2]; exact List.length_set
  have c2 : H2[h0.length + 2]? = some (.cells (cellsL e) 72 (some 0)) := by rw [hH2]; exact set_ne b2 (by omega)
  have c3 : H2[h0.length + 3]? = some (.cells [.slice (some ⟨h0.length + 2, 0, none⟩) N N] 215 (some 0)) := by rw [hH2]; exact set_ne b3 (by omega)
  have c4 : H2[h0.length + 4]? = some (.iter (some mb) N (seen ++ [z.2.2]) N) := by rw [hH2]; exact set_self b4
  have cm : H2[mb]? = some (.map ((lE G.X s n).map (entG kcII)) N) := by rw [hH2]; exact set_ne (hI.sub _ _ k5) (by omega)
  have eE := entryVS_E (f := h0.length) (x := entG kcII z) c4 cm (by simp [entG]) hpw hallk (List.mem_map.2 ⟨z, hz, rfl⟩)
  have ek : (entG kcII z).key = .agg #[.int .i64 c, .int .i64 p] := by unfold entG; rw [hz1]; rfl
  have ev : (entG kcII z).val = .int .i64 (G.X c p) := by unfold entG; rw [hz2]
  have eb : (entG kcII z).born = z.2.2 := rfl
  rw [ek, ev] at eE
  rw [ek, ev, eb, ← hH2]
  have cll := cellsL_len e
  have hel := hI.el
  have hroom : G.X c p * 2 + 2 ≤ (cellsL e).length := by omega
  have hse := cellsL_set (e := e) (a := G.X c p) (x := (c, p)) (by omega)
  simp only [cells2, setL_cons, setL_nil] at hse
  have hmin : min h0.length H2.length = h0.length := by omega
  have hmin2 : min h0.length (h0.length + 2) = h0.length := by omega
  have c2' : ∀ l, (H2 ++ l)[h0.length + 2]? = _ := fun l => app_of c2 l
  have c3' : ∀ l, (H2 ++ l)[h0.length + 3]? = _ := fun l => app_of c3 l
  simp [g2, g3, g5, g18, eE, wrN_at0, set_at0, rd_def, c3', rdN_at0, hXN, wrN_def, c2', hroom, hse, hmin, hmin2, app_at0]
  have hbz : z.2.2 ∉ seen := hys
  refine ⟨e.set (G.X c p) (c, p), ((by rw [hH2]; exact hI.sub.set (by omega) _ : Sub h0 H2).app _).set (by omega) _, set_ne (app_of ?_ _) (by omega), set_ne (app_of ?_ _) (by omega), set_self (c2' _), set_ne (c3' _) (by omega), set_ne (app_of c4 _) (by omega), by simp [hl2, hHl]; omega, fun b o hb ho => ?_, by simp [hel], fun y hy' hys' a hya => ?_, ?_, fun b hb => ?_⟩
  ·rw [hH2]; exact set_ne hI.b0 (by omega)
  ·rw [hH2]; exact set_ne hI.b1 (by omega)
  ·rw [List.getElem?_set_ne (by omega)] at ho
   by_cases hbl : b < H2.length
   ·rw [List.getElem?_append_left hbl, hH2, List.getElem?_set_ne (by omega)] at ho
    exact hI.own b o hb ho
   ·rw [List.getElem?_append_right (by omega)] at ho
    have h1 := (List.getElem?_eq_some_iff.1 ho).1
    simp at h1
    rw [show b - H2.length = 0 by omega] at ho
    simp at ho
    rw [← ho]; rfl
  ·obtain ⟨y0, hy0, rfl⟩ := List.mem_map.1 hy'
   have hyb : (entG kcII y0).born = y0.2.2 := rfl
   have hyv : (entG kcII y0).val = y0.2.1 := rfl
   obtain ⟨c', p', hc', hp', hy1, hy2⟩ := lE_is y0 hy0
   rw [hyv, hy2] at hya
   have hqa := (in_place (hS.sign c' hc')).1 hp'
   have hXa := hG.X c' p' (by rw [hGn]; exact hc') hqa.1
   simp only [Value.int.injEq, true_and] at hya
   have haX : a = G.X c' p' := by omega
   by_cases ea : a = G.X c p
   ·rw [ea, List.getElem?_set_self (by omega), hfin]
   ·rw [List.getElem?_set_ne (Ne.symm ea)]
    rcases List.mem_append.1 hys' with h1 | h1
    ·exact hI.met _ hy' h1 a (by rw [hyv, hy2, haX])
    ·simp at h1
     rw [hyb] at h1
     have := pw_eq (f := fun w : (Nat × Nat) × Value × Nat => w.2.2) (lE_pw G.X s n) hy0 hz h1
     subst this
     rw [hz2] at hy2
     simp only [Value.int.injEq, true_and] at hy2
     omega
  ·rw [List.nodup_append]
   refine ⟨hI.nd, by simp, fun a ha b hb => ?_⟩
   simp at hb
   rw [hb]; intro e'; rw [e'] at ha; exact hbz ha
  ·rcases List.mem_append.1 hb with h1 | h1
   ·exact hI.mem b h1
   ·simp at h1
    exact ⟨_, hy, h1.symm⟩
 ·rintro seen fr H' ⟨⟨e, hI⟩, g2, g3, g5, g18⟩ hall
  refine PW_of_DW ?_
  simp [g2, g3, g5, endK_ret]
  unfold pairQ back
  rw [if_neg (by simp [Out.scalar, scalar, flat1, flat])]
  have hbn : ((lE G.X s n).map fun w => w.2.2).Nodup := by
   have := lE_pw G.X s n
   exact List.pairwise_map.2 this
  have hlen : seen.length = N := by
   have a1 := nodup_le hI.nd (l := (lE G.X s n).map fun w => w.2.2) fun b hb => by
    obtain ⟨y, hy, rfl⟩ := hI.mem b hb
    obtain ⟨z, hz, rfl⟩ := List.mem_map.1 hy
    exact List.mem_map.2 ⟨z, hz, rfl⟩
   have a2 := nodup_le hbn (l := seen) fun b hb => by
    obtain ⟨z, hz, rfl⟩ := List.mem_map.1 hb
    exact hall _ (List.mem_map.2 ⟨z, hz, rfl⟩)
   rw [List.length_map, lE_length] at a1 a2
   omega
  have hfl : e = finL G := by
   apply List.ext_getElem?
   intro a
   by_cases ha : a < N
   ·obtain ⟨c, p, hcp⟩ : ∃ c p, (c, p) = finT G a := ⟨_, _, rfl⟩
    obtain ⟨t0, t1, t2, t3, x1, x2, _⟩ := hG.T a (by omega)
    have hd := (hG.dir a (by omega)).2
    have hc : G.T a 2 < n := by rw [← hGn]; exact t2
    obtain ⟨b, hb⟩ := lE_has (X := G.X) (s := s) hc ((in_place (hS.sign _ hc)).2 ⟨t3, by rw [← hGs]; exact hd⟩)
    have hm := hI.met (entG kcII _) (List.mem_map.2 ⟨_, hb, rfl⟩) (hall _ (List.mem_map.2 ⟨_, hb, rfl⟩)) a (by show Value.int .i64 (G.X (G.T a 2) (G.T a 3)) = _; rw [x2])
    rw [hm]
    simp [finL, hGN, ha]
   ·rw [List.getElem?_eq_none (by have := hI.el; omega), List.getElem?_eq_none (by simp [finL, hGN]; omega)]
  have hHl := hI.len
  refine ⟨rfl, rfl, by simp [walkM, hHl, hGN, hlen]; omega, fun b hb => ?_, fun b hb hb2 => ?_⟩
  ·simp only at hb ⊢
   unfold walkM
   rw [List.getElem?_append_left (by simp; omega)]
   rw [List.getElem?_set_ne (by omega)]
   by_cases h1 : b < h0.length
   ·rw [List.getElem?_append_left h1, hI.sub b h0[b] (List.getElem?_eq_getElem h1), List.getElem?_eq_getElem h1]
   ·obtain ⟨d, rfl⟩ : ∃ d, b = h0.length + d := ⟨b - h0.length, by omega⟩
    rw [app_at]
    match d, (show d < 4 by omega) with
    | 0, _ => exact hI.b0.symm
    | 1, _ => exact hI.b1.symm
    | 2, _ => rw [← hfl]; exact hI.b2.symm
    | 3, _ => rw [hGN]; exact hI.b3.symm
  ·simp only [walkM, List.length_append, List.length_cons, List.length_nil, List.length_replicate] at hb hb2 ⊢
   refine ⟨?_, fun o ho => ?_⟩
   ·rw [List.getElem?_append_right (by simp; omega), List.getElem?_replicate, if_pos]
    simp at hb2 ⊢
    omega
   ·by_cases h1 : b = h0.length + 4
    ·rw [h1, List.getElem?_set_self (by omega)] at ho
     obtain rfl := Option.some.inj ho
     rfl
    ·rw [List.getElem?_set_ne (by omega)] at ho
     exact hI.own b o (by omega) ho
 ·have hrep : ∀ k, rep k [Value.int .i64 0, .int .i64 0] = cellsL (List.replicate k (0, 0)) := fun k => by
   induction k with
   | zero => rfl
   | succ k ih =>
    show (List.replicate (k + 1) [Value.int .i64 0, .int .i64 0]).flatten = _
    rw [List.replicate_succ, List.flatten_cons, List.replicate_succ]
    show _ ++ rep k [Value.int .i64 0, .int .i64 0] = cells2 (0, 0) ++ cellsL (List.replicate k (0, 0))
    rw [ih]; rfl
  have hiter : (H ++ [O.iter (some mb) N [] N])[h0.length + 4]? = some (.iter (some mb) N [] N) := by rw [← hlH, app_at0]; rfl
  refine ⟨⟨List.replicate N (0, 0), fun b o hb => app_of (by rw [hH]; exact app_of hb _) _, app_of hb0 _, app_of (by rw [hH, app_at]; rfl) _, app_of (by rw [hH, app_at, ← hrep]; rfl) _, app_of (by rw [hH, app_at]; rfl) _, hiter, by simp [hlH], fun b o hb ho => ?_, by simp, fun y _ hy => by simp at hy, List.nodup_nil, fun b hb => by simp at hb⟩, ?_⟩
  ·have := (List.getElem?_eq_some_iff.1 ho).1
   simp [hlH] at this
   omega
  ·simp [hlH]
end Go.Proofs.Ytjlkndkedknocaa
namespace Go.Ai
theorem and3 {p : Nat} (hp : p < 4) : binV .and (.int .i64 ((p : Int) + 2)) (.int .i64 3) = some (.int .i64 (((p + 2) % 4 : Nat) : Int)) := by
 match p, hp with
 | 0, _ => rfl
 | 1, _ => rfl
 | 2, _ => rfl
 | 3, _ => rfl
end Go.Ai
namespace Go.Proofs.Ytjlkndkedknocaa
open Go Go.Ai
attribute [local instance] Classical.propDecidable
theorem cellsL_two : ∀ {l : List (Nat × Nat)} {j : Nat} {x : Nat × Nat}, l[j]? = some x → j * 2 + 2 ≤ (cellsL l).length ∧ ((cellsL l).drop (j * 2)).take 2 = cells2 x ∧ (cellsL l)[j * 2]? = some (.int .i64 x.1) ∧ (cellsL l)[j * 2 + 1]? = some (.int .i64 x.2)
 | [], j, x, h => by simp at h
 | y :: l, 0, x, h => by
  simp at h
  subst h
  have e : cellsL (y :: l) = cells2 y ++ cellsL l := rfl
  rw [e]
  simp [cells2]
 | y :: l, j + 1, x, h => by
  simp at h
  obtain ⟨h1, h2, h3, h4⟩ := cellsL_two h
  have e : cellsL (y :: l) = cells2 y ++ cellsL l := rfl
  rw [e, show (j + 1) * 2 = j * 2 + 2 by omega]
  simp only [cells2, List.cons_append, List.nil_append, List.length_cons, List.drop_succ_cons, List.getElem?_cons_succ, show j * 2 + 2 + 1 = (j * 2 + 1) + 2 by omega]
  exact ⟨by omega, h2, h3, h4⟩
theorem finL_at {G : Dg} {a : Nat} (h : a < 2 * G.n) : (finL G)[a]? = some (finT G a) := by simp [finL, h]
variable {E : Env} (hE : OE E)
include hE
theorem walk1_ {G : Dg} (hG : GoodG G) {pl k pf pe pL eb N m a0 : Nat} (ha0 : a0 < 2 * G.n) (hm : 0 < m) (hmend : itr (nx G) a0 m = a0) (hmid : ∀ i, 0 < i → i < m → itr (nx G) a0 i ≠ a0)
  {I : Nat → List O → Nat → Prop}
  (hdi : ∀ i h f, I i h f → h[pf]? = some (.cells [.int .i64 a0] 3 (some 0)) ∧ h[pe]? = some (.cells [.slice (some ⟨eb, 0, none⟩) (2 * G.n) (2 * G.n)] 215 (some 0)) ∧ h[eb]? = some (.cells (cellsL (finL G)) 72 (some 0)) ∧
   h[pL]? = some (.cells [.pointer (some ⟨pl, 0, none⟩)] 155 (some 0)) ∧ (∃ uv xa xc L av cnt cv kk mv, h[pl]? = some (.cells (linkC uv xa G.n xc L av cnt cv kk mv) 170 (some 0)) ∧ CrossP h xa G.n (fun i j => G.X i j) G.s) ∧ (0 < i → f < N))
  (hround : ∀ i h f, i < m → I i h f → DC E (yB + k) [endV (finT G (itr (nx G) a0 i))] ⟨h, h.length⟩ fun o st' => o = .ret (.bool true) ∧ I (i + 1) (joined ⟨h, f⟩ st').h (joined ⟨h, f⟩ st').fl)
  {h : List O} (hi : I 0 h h.length) (hN : N = h.length) :
  DC E 212 [tok k, .pointer (some ⟨pf, 0, none⟩), .pointer (some ⟨pe, 0, none⟩), .pointer (some ⟨pL, 0, none⟩)] ⟨h, h.length⟩ fun o st' => o = .ret (.tuple #[]) ∧ I m st'.h st'.fl := by
 refine hE.fnC (body := rb212) rfl ?_
 unfold rb212
 have hN2 := nx_perm hG
 have hsz := hG.size
 obtain ⟨f0, _⟩ := hdi 0 h h.length hi
 simp [rd_def, f0]
 refine DW_loop (fun kk fr st => ∃ i h f, i + kk = m ∧ i < m ∧ st = ⟨h, f⟩ ∧ I i h f ∧ get fr 0 = tok k ∧ get fr 1 = .pointer (some ⟨pf, 0, none⟩) ∧ get fr 2 = .pointer (some ⟨pe, 0, none⟩) ∧ get fr 3 = .pointer (some ⟨pL, 0, none⟩) ∧ get fr 5 = .int .i64 (itr (nx G) a0 i)) ?_ (k := m) ?_
 ·rintro kk fr st ⟨i, h1, f1, hik, him, rfl, hI, g0, g1, g2, g3, g5⟩
  obtain ⟨d1, d2, d3, d4, ⟨uv, xa, xc, L, av, cnt, cv, kc, mv, d5, d6⟩, d7⟩ := hdi _ _ _ hI
  have ha := hN2.itr_lt ha0 i
  have hr := hround i h1 f1 him hI
  have ha1 : itr (nx G) a0 (i + 1) = nx G (itr (nx G) a0 i) := rfl
  generalize itr (nx G) a0 i = a at ha hr ha1 g5
  have ha' : (a : Int) < 2 * (G.n : Int) := by omega
  obtain ⟨c1, c2, c3, c4⟩ := cellsL_two (finL_at ha)
  simp only [cells2] at c2
  simp only [endV] at hr
  simp [g0, g2, g5, rd_def, rdN_def, d2, d3, ha, ha', c1, c2, tok]
  refine hr.imp ?_
  rintro o st' ⟨rfl, hI'⟩
  simp only [callK_ret]
  generalize joined ⟨h1, f1⟩ st' = s1 at hI' ⊢
  obtain ⟨h2, f2⟩ := s1
  simp only at hI' ⊢
  obtain ⟨k1, k2, k3, k4, ⟨uv, xa, xc, L, av, cnt, cv, kc, mv, k5, k6⟩, k7⟩ := hdi _ _ _ hI'
  unfold linkC at k5
  obtain ⟨xb, xo, hxa, hxr⟩ := k6
  obtain rfl := hxa (by omega)
  obtain ⟨t0, t1, t2, t3, _⟩ := hG.T a ha
  have hf2 := k7 (by omega)
  have hq : (G.T a 3 + 2) % 4 < 4 := Nat.mod_lt _ (by omega)
  have hcr := rd_of_rdN (hxr _ t2) (show (G.T a 3 + 2) % 4 < 5 by omega)
  have hv : (crossC (fun j => (G.X (G.T a 2) j : Int)) (G.s (G.T a 2)))[(G.T a 3 + 2) % 4]? = some (.int .i64 (nx G a)) := by
   unfold nx
   generalize (G.T a 3 + 2) % 4 = q at hq ⊢
   match q, hq with
   | 0, _ => rfl
   | 1, _ => rfl
   | 2, _ => rfl
   | 3, _ => rfl
  rw [hv] at hcr
  rw [rd_def] at hcr
  have hw : IntKind.i64.wrap ((G.T a 3 : Int) + 2) = (G.T a 3 : Int) + 2 := by rw [w64_id] <;> omega
  have e1 : (finT G a).1 = G.T a 2 := rfl
  have e2 : (finT G a).2 = G.T a 3 := rfl
  rw [e1] at c3
  rw [e2] at c4
  have t2' : (G.T a 2 : Int) < G.n := by omega
  have hq' : (((G.T a 3 + 2) % 4 : Nat) : Int) < 4 := by omega
  have ha3 := and3 t3
  generalize (G.T a 3 + 2) % 4 = q at hq hcr hq' ha3
  by_cases hend : nx G a = a0
  ·have him' : i + 1 = m := by
    rcases Nat.lt_or_ge (i + 1) m with h | h
    ·exact absurd (ha1.trans hend) (hmid _ (by omega) h)
    ·omega
   subst him'
   have hqf : ¬ (h.length ≤ f2) := by omega
   simp [g0, g1, g2, g3, g5, rd_def, k1, k2, k3, k4, k5, ha, ha', c3, c4, hw, ha3, t2, t2', hq, hq', hcr, hend, endK_ret, back, Out.scalar, scalar, hqf]
   exact hI'
  ·have him' : i + 1 ≠ m := fun e => hend (by rw [← ha1, e]; exact hmend)
   simp [g0, g1, g2, g3, g5, rd_def, k1, k2, k3, k4, k5, ha, ha', c3, c4, hw, ha3, t2, t2', hq, hq', hcr, hend]
   exact ⟨kk - 1, by omega, i + 1, by omega, by omega, h2, f2, ⟨rfl, rfl⟩, hI', rfl, ha1.symm⟩
 ·exact ⟨0, h, h.length, by omega, hm, rfl, hi, by simp [itr]⟩
end Go.Proofs.Ytjlkndkedknocaa
namespace Go.Proofs.Ytjlkndkedknocaa
open Go Go.Ai
attribute [local instance] Classical.propDecidable
noncomputable def wordP (G : Dg) (x : Nat × Nat) : List Int := if x.2 = 0 then [gen G (G.X x.1 1) * G.s x.1] else []
noncomputable def ownP (G : Dg) (k : Int) (x : Nat × Nat) : Int := if x.2 = 0 ∧ nth (cpL G) (G.X x.1 1) = k then G.s x.1 else 0
def RndP (h : List O) (f base k N p8 p11 : Nat) (ws : List Int) (sm : Int) (st' : St) : Prop :=
 ∃ h' f' ov', joined ⟨h, f⟩ st' = ⟨h', f'⟩ ∧ base ≤ f' ∧ f' ≤ k ∧ h'[p8]? = some (.cells [ov'] 34 (some 0)) ∧ h'[p11]? = some (.cells [.int .i64 sm] 3 (some 0)) ∧
  OwnT h' N ov' ws.length (intsC ws) 3 1 ∧ h.length ≤ h'.length ∧ ∀ (b : Nat) (o : O), b < N → h[b]? = some o → b ≠ p8 → b ≠ p11 → h'[b]? = some o
variable {E : Env} (hE : OE E)
include hE
theorem roundL_ {h hL : List O} {f k pl n N base dB pc p7 p8 p11 i xc : Nat} {xa : Option Addr} {x : Nat → Nat → Int} {s : Nat → Int} {L : Int} {frL : Fr} {c p : Nat} {ws : List Int} {sm comp : Int} {ov : Value}
  (hk : h[k]? = some (.loop false 98 frL [44] (lcA 70 0) (lcB 70 0))) (g2 : get frL 2 = .pointer (some ⟨dB, 0, none⟩)) (g3 : get frL 3 = .pointer (some ⟨pc, 0, none⟩)) (g7 : get frL 7 = .pointer (some ⟨p7, 0, none⟩)) (g8 : get frL 8 = .pointer (some ⟨p8, 0, none⟩)) (g11 : get frL 11 = .pointer (some ⟨p11, 0, none⟩))
  (hl : LnkP hL pl n x s L) (hS : Snd n x s L) (hs : Sub hL h) (hdB : hL[dB]? = some (.cells [.slice xa n xc, .int .i64 L] 24 (some 0))) (hx : CrossP hL xa n x s) (hpc : hL[pc]? = some (.cells [.int .i64 comp] 3 (some 0)))
  (h7 : h[p7]? = some (.cells [.pointer (some ⟨pl, 0, none⟩)] 155 (some 0))) (h8 : h[p8]? = some (.cells [ov] 34 (some 0))) (h11 : h[p11]? = some (.cells [.int .i64 sm] 3 (some 0)))
  (hov : OwnT h N ov ws.length (intsC ws) 3 1) (hN : N ≤ h.length) (hws : ws.length ≤ 1000) (hsm : -1000 ≤ sm ∧ sm ≤ 1000) (hc : c < n) (hp : p < 4)
  (b0 : hL.length ≤ base) (b7 : p7 < N) (b8 : base ≤ p8) (b11 : base ≤ p11) (bk : base ≤ k) (bf : base ≤ f) (l7 : k < N) (l8 : p8 < N) (l11 : p11 < N) (n1 : p7 ≠ p8) (n2 : p7 ≠ p11) (n3 : p8 ≠ p11) :
  DC E (yB + k) [endV (c, p)] ⟨h, h.length⟩ fun o st' => o = .ret (.bool true) ∧ RndP h f base k N p8 p11 (ws ++ wordP (dgOf n x s L) (c, p)) (sm + ownP (dgOf n x s L) comp (c, p)) st' := by
 have lk := (List.getElem?_eq_some_iff.1 hk).1
 have m1 : k ≠ p7 := fun e => by subst e; rw [hk] at h7; cases h7
 have m2 : k ≠ p8 := fun e => by subst e; rw [hk] at h8; cases h8
 have m3 : k ≠ p11 := fun e => by subst e; rw [hk] at h11; cases h11
 obtain ⟨G, hGe⟩ : ∃ G, G = dgOf n x s L := ⟨_, rfl⟩
 have hG : GoodG G := by rw [hGe]; exact good_of hS
 have hGn : G.n = n := by rw [hGe]; rfl
 have hGs : G.s = s := by rw [hGe]; rfl
 have hX : ∀ i q, i < n → q < 4 → x i q = (G.X i q : Int) := fun i q hi hq => by rw [hGe]; exact sound_x hS hi hq
 have hsz := hS.size
 rw [← hGe]
 refine DC_yield (hE.Y k) hk rfl hE.c70_0a hE.c70_0b ?_
 unfold ra70_0
 simp [putAll, endV, wrN_at0, set_at0]
 obtain ⟨H0, hH0⟩ : ∃ H, H = h ++ [O.cells [.int .i64 c, .int .i64 p] 72 (some 0)] := ⟨_, rfl⟩
 have k0 : H0[k]? = some (.loop false 98 frL [44] (lcA 70 0) (lcB 70 0)) := by rw [hH0]; exact app_of hk _
 rw [← hH0]
 refine ⟨_, turn_eq k0, ?_⟩
 obtain ⟨H1, hH1⟩ : ∃ H, H = H0.set k (O.loop (!false) 98 frL [44] (lcA 70 0) (lcB 70 0)) := ⟨_, rfl⟩
 have K1 : ∀ (b : Nat) (o : O), h[b]? = some o → b ≠ k → H1[b]? = some o := fun b o hb hn => by rw [hH1]; exact set_ne (by rw [hH0]; exact app_of hb _) hn
 have L1 : H1.length = h.length + 1 := by rw [hH1, hH0]; simp
 have a9 : H1[h.length]? = some (.cells [.int .i64 c, .int .i64 p] 72 (some 0)) := by rw [hH1]; exact set_ne (by rw [hH0, app_at0]; rfl) (by omega)
 have kk1 : H1[k]? = some (.loop true 98 frL [44] (lcA 70 0) (lcB 70 0)) := by rw [hH1]; exact set_self k0
 have s1 : Sub hL H1 := by rw [hH1, hH0]; exact (hs.app _).set (by omega) _
 rw [← hH1]
 unfold rl70_0
 have hlow : min (min h.length k) k < h.length := by omega
 by_cases hp0 : p = 0
 ·subst hp0
  obtain ⟨xb, xo, hxa, hxr⟩ := hx
  obtain rfl := hxa (by omega)
  have hcr : rdN H1 xb (xo + c * 5) 5 = some (crossC (x c) (s c)) := s1.rdN (hxr c hc)
  rw [rdN_def] at hcr
  simp only [crossC] at hcr
  rw [hX c 0 hc (by omega), hX c 1 hc (by omega), hX c 2 hc (by omega), hX c 3 hc (by omega)] at hcr
  have d1 := s1 _ _ hdB
  have dc := s1 _ _ hpc
  obtain ⟨H2, hH2⟩ : ∃ H, H = H1 ++ [O.cells [.int .i64 (G.X c 0), .int .i64 (G.X c 1), .int .i64 (G.X c 2), .int .i64 (G.X c 3), .int .i64 (s c)] 107 (some 0)] := ⟨_, rfl⟩
  have L2 : H2.length = H1.length + 1 := by rw [hH2]; simp
  have K2 : ∀ (b : Nat) (o : O), H1[b]? = some o → H2[b]? = some o := fun b o hb => by rw [hH2]; exact app_of hb _
  have s2 : Sub hL H2 := fun b o hb => K2 _ _ (s1 b o hb)
  have q2 : H2[H1.length]? = some (O.cells [.int .i64 (G.X c 0), .int .i64 (G.X c 1), .int .i64 (G.X c 2), .int .i64 (G.X c 3), .int .i64 (s c)] 107 (some 0)) := by rw [hH2, app_at0]; rfl
  have hXlt := hG.X c 1 (by rw [hGn]; exact hc) (by omega)
  rw [hGn] at hXlt
  have hg := generator_ hE (hl.sub s2) hsz hXlt
  rw [← hGe] at hg
  have hgq : (arN G (G.X c 1) : Int) + 1 = gen G (G.X c 1) := rfl
  rw [hgq] at hg
  have hgv := gen_le hG (by rw [hGn]; exact hc) (show 1 < 4 by omega)
  have hac := arC_le G
  rw [hGn] at hac
  have w1 : IntKind.i64.wrap (gen G (G.X c 1) * s c) = gen G (G.X c 1) * s c := by
   rcases hS.sign c hc with e | e <;> rw [e] <;> rw [w64_id] <;> omega
  have e1 : wordP G (c, 0) = [gen G (G.X c 1) * s c] := by unfold wordP; rw [if_pos rfl, hGs]
  obtain ⟨H3, hH3⟩ : ∃ H, H = H2 ++ [O.cells [.int .i64 (gen G (G.X c 1) * s c)] 3 (some 0)] := ⟨_, rfl⟩
  have L3 : H3.length = H2.length + 1 := by rw [hH3]; simp
  have K3 : ∀ (b : Nat) (o : O), H2[b]? = some o → H3[b]? = some o := fun b o hb => by rw [hH3]; exact app_of hb _
  have hov3 : OwnT H3 N ov ws.length (intsC ws) 3 1 := hov.keep fun b s' _ hb e => K3 _ _ (K2 _ _ (K1 _ _ e (by omega)))
  have hread : readSlice H3 1 1 (some ⟨H2.length, 0, none⟩) = some [.int .i64 (gen G (G.X c 1) * s c)] := by rw [hH3]; simp [readSlice, rdN_at0]
  obtain ⟨b', H4, f4, happ, hb', hown, hf1, hf2, hL4, K4⟩ := append_T (fl := min h.length k) (c := 1) (bytes := 8) hov3 hread (by simp) (by simp) (by omega) (by simp only [roomMax]; omega) (by omega)
  have r2 := K2 _ _ (K1 _ _ h8 (Ne.symm m2))
  have r7 := K2 _ _ (K1 _ _ h7 (Ne.symm m1))
  have r11 := K2 _ _ (K1 _ _ h11 (Ne.symm m3))
  have r4 := K4 _ _ (K3 _ _ r2) (.inl l8)
  have kk4 := K4 _ _ (K3 _ _ (K2 _ _ kk1)) (.inl l7)
  obtain ⟨H5, hH5⟩ : ∃ H, H = H4.set p8 (O.cells [.slice (some ⟨b', 0, none⟩) (ws.length + 1) (ws.length + 1)] 34 (some 0)) := ⟨_, rfl⟩
  have kk5 : H5[k]? = some (.loop true 98 frL [44] (lcA 70 0) (lcB 70 0)) := by rw [hH5]; exact set_ne kk4 m2
  have t7 : H5[p7]? = some (.cells [.pointer (some ⟨pl, 0, none⟩)] 155 (some 0)) := by rw [hH5]; exact set_ne (K4 _ _ (K3 _ _ r7) (.inl b7)) n1
  have t11 : H5[p11]? = some (.cells [.int .i64 sm] 3 (some 0)) := by rw [hH5]; exact set_ne (K4 _ _ (K3 _ _ r11) (.inl l11)) (Ne.symm n3)
  have t13 : H5[H1.length]? = some (O.cells [.int .i64 (G.X c 0), .int .i64 (G.X c 1), .int .i64 (G.X c 2), .int .i64 (G.X c 3), .int .i64 (s c)] 107 (some 0)) := by
   rw [hH5]
   exact set_ne (K4 _ _ (K3 _ _ q2) (.inr fun c s e => by cases e)) (by omega)
  have s5 : Sub hL H5 := fun b o hb => by
   have := (List.getElem?_eq_some_iff.1 hb).1
   rw [hH5]
   exact set_ne (K4 _ _ (K3 _ _ (s2 b o hb)) (.inl (by omega))) (by omega)
  have dc5 := s5 _ _ hpc
  obtain ⟨uv, xa', xc', ab, cb, mb, z1, z2, z3, z4, z5, hO, hk'⟩ := hl.sub s5
  rw [← hGe] at z1 z4
  unfold linkC at z1
  have hcl : G.X c 1 < (cpL G).length := by have := hO.len; rw [← hGe] at this; omega
  have hX' : (G.X c 1 : Int) < 2 * (n : Int) := by omega
  have hq : h.length + 1 = H1.length := L1.symm
  rw [e1]
  have hend : ∀ (H6 : List O) (f6 : Nat) (sm' : Int), sm' = sm + ownP G comp (c, 0) → H6[k]? = some (.loop true 98 frL [44] (lcA 70 0) (lcB 70 0)) → H6[p11]? = some (.cells [.int .i64 sm'] 3 (some 0)) → (∀ b o, H5[b]? = some o → b ≠ p11 → H6[b]? = some o) → H6.length = H5.length → base ≤ f6 → f6 ≤ h.length →
    ∃ st4, turn true k ⟨H6, f6⟩ = some st4 ∧ RndP h f base k N p8 p11 (ws ++ [gen G (G.X c 1) * s c]) (sm + ownP G comp (c, 0)) st4 := fun H6 f6 sm' hsm' u1 u2 u3 u4 u5 u6 => by
   refine ⟨_, turn_eq u1, ?_⟩
   have hlow6 : min f6 k < h.length := by omega
   refine ⟨H6.set k (.loop (!true) 98 frL [44] (lcA 70 0) (lcB 70 0)), min f (min f6 k), .slice (some ⟨b', 0, none⟩) (ws.length + 1) (ws.length + 1), by simp only [joined]; rw [if_pos hlow6], by omega, by omega, ?_, ?_, ?_, ?_, fun b o hbN hb hn1 hn2 => ?_⟩
   ·refine set_ne (u3 _ _ ?_ n3) (Ne.symm m2)
    rw [hH5]; exact set_self r4
   ·rw [← hsm']; exact set_ne u2 (Ne.symm m3)
   ·have : OwnT H4 N (.slice (some ⟨b', 0, none⟩) (ws.length + 1) (ws.length + 1)) (ws ++ [gen G (G.X c 1) * s c]).length (intsC (ws ++ [gen G (G.X c 1) * s c])) 3 1 := by simpa [intsC] using hown
    refine this.keep fun b s' e1 e2 e3 => set_ne (u3 _ _ ?_ (by omega)) (by omega)
    rw [hH5]; exact set_ne e3 (by omega)
   ·rw [List.length_set, u4, hH5, List.length_set]; omega
   ·by_cases hbk : b = k
    ·subst hbk
     rw [hk] at hb
     obtain rfl := Option.some.inj hb
     exact set_self u1
    ·refine set_ne (u3 _ _ ?_ hn2) hbk
     rw [hH5]
     exact set_ne (K4 _ _ (K3 _ _ (K2 _ _ (K1 _ _ hb hbk))) (.inl hbN)) hn1
  have hmin : min f4 p8 ≤ h.length := by omega
  have hminA : min k H1.length = k := by omega
  by_cases hcomp : nth (cpL G) (G.X c 1) = comp
  ·have e2 : ownP G comp (c, 0) = s c := by unfold ownP; rw [if_pos ⟨rfl, hcomp⟩, hGs]
   have hw2 : IntKind.i64.wrap (sm + s c) = sm + s c := by rcases hS.sign c hc with e | e <;> rw [e] <;> rw [w64_id] <;> omega
   simp [g2, g3, g7, g8, g11, rd_def, rdN_def, a9, d1, dc, hc, hcr, wrN_at0, set_at0, app_at0, ← hH2, ← L2, r2, r7, q2, hminA, DC_of hg, bit, w1, ← hH3, happ, wrN_def, r4, ← hH5, t7, t13, z1, hX', hXlt, z4, intsC_get hcl, hcomp, dc5, t11, hw2]
   exact hend _ _ (sm + s c) (by rw [e2]) (set_ne kk5 m3) (set_self t11) (fun b o hb hn => set_ne hb hn) List.length_set (by omega) (by omega)
  ·have e2 : ownP G comp (c, 0) = 0 := by unfold ownP; rw [if_neg fun h => hcomp h.2]
   simp [g2, g3, g7, g8, g11, rd_def, rdN_def, a9, d1, dc, hc, hcr, wrN_at0, set_at0, app_at0, ← hH2, ← L2, r2, r7, q2, hminA, DC_of hg, bit, w1, ← hH3, happ, wrN_def, r4, ← hH5, t7, t13, z1, hX', hXlt, z4, intsC_get hcl, hcomp, dc5]
   exact hend H5 _ sm (by rw [e2, Int.add_zero]) kk5 t11 (fun b o hb _ => hb) rfl (by omega) (by omega)
 ·have hpz : ¬ (p : Int) = 0 := by omega
  have e1 : wordP G (c, p) = [] := if_neg hp0
  have e2 : ownP G comp (c, p) = 0 := if_neg (fun h => hp0 h.1)
  rw [e1, e2, List.append_nil, Int.add_zero]
  simp [rd_def, a9, hpz, hp0]
  refine ⟨_, turn_eq kk1, ?_⟩
  refine ⟨H1.set k (.loop (!true) 98 frL [44] (lcA 70 0) (lcB 70 0)), min f (min (min h.length k) k), ov, by simp only [joined]; rw [if_pos hlow], by omega, by omega, ?_, ?_, ?_, ?_, fun b o hbN hb hn1 hn2 => ?_⟩
  ·exact set_ne (K1 _ _ h8 (Ne.symm m2)) (Ne.symm m2)
  ·exact set_ne (K1 _ _ h11 (Ne.symm m3)) (Ne.symm m3)
  ·exact hov.keep fun b s' _ hb e => set_ne (K1 _ _ e (by omega)) (by omega)
  ·rw [List.length_set]; omega
  ·by_cases hbk : b = k
   ·subst hbk
    rw [hk] at hb
    obtain rfl := Option.some.inj hb
    exact set_self kk1
   ·exact set_ne (K1 _ _ hb hbk) hbk
end Go.Proofs.Ytjlkndkedknocaa
namespace Go.Proofs.Ytjlkndkedknocaa
open Go Go.Ai
attribute [local instance] Classical.propDecidable
noncomputable def perA (G : Dg) (a : Nat) : Nat := if h : ∃ P, (0 < P ∧ itr (nx G) a P = a ∧ P ≤ 2 * G.n) ∧ ∀ t, 0 < t → t < P → itr (nx G) a t ≠ a then h.choose else 1
theorem perA_spec {G : Dg} (hG : GoodG G) {a : Nat} (ha : a < 2 * G.n) : (0 < perA G a ∧ itr (nx G) a (perA G a) = a ∧ perA G a ≤ 2 * G.n) ∧ ∀ t, 0 < t → t < perA G a → itr (nx G) a t ≠ a := by
 have h := (nx_perm hG).period ha
 unfold perA
 rw [dif_pos h]
 exact h.choose_spec
noncomputable def wordT (G : Dg) (a : Nat) : Nat → List Int
 | 0 => []
 | i + 1 => wordT G a i ++ wordP G (finT G (itr (nx G) a i))
noncomputable def ownT (G : Dg) (k : Int) (a : Nat) : Nat → Int
 | 0 => 0
 | i + 1 => ownT G k a i + ownP G k (finT G (itr (nx G) a i))
theorem wordT_len (G : Dg) (a : Nat) : ∀ i, (wordT G a i).length ≤ i := by
 intro i
 induction i with
 | zero => exact Nat.le_refl _
 | succ i ih =>
  simp only [wordT, List.length_append, wordP]
  split
  ·simp; omega
  ·simp; omega
theorem ownT_le {G : Dg} (hG : GoodG G) {k : Int} {a : Nat} (ha : a < 2 * G.n) : ∀ i : Nat, -(i : Int) ≤ ownT G k a i ∧ ownT G k a i ≤ i := by
 intro i
 induction i with
 | zero => simp [ownT]
 | succ i ih =>
  obtain ⟨t0, t1, t2, t3, _⟩ := hG.T _ ((nx_perm hG).itr_lt ha i)
  have hs := hG.sign _ t2
  simp only [ownT, ownP]
  have e : (finT G (itr (nx G) a i)).1 = G.T (itr (nx G) a i) 2 := rfl
  rw [e]
  split
  ·rcases hs with h | h <;> rw [h] <;> omega
  ·omega
theorem joined_min {H h : List O} {f g : Nat} (h1 : f ≤ g) (h2 : g < H.length) : joined ⟨H, f⟩ ⟨h, g⟩ = ⟨h, f⟩ := by
 simp only [joined]
 rw [if_pos h2, Nat.min_eq_left h1]
variable {E : Env} (hE : OE E)
include hE
theorem rangeL_ {h hL : List O} {f0 pl n dB pc p7 p8 p11 pf pe pL eb xc a0 : Nat} {xa : Option Addr} {x : Nat → Nat → Int} {s : Nat → Int} {L : Int} {fr : Fr} {comp : Int} {ov : Value} {Q : Post}
  (g43 : get fr 43 = .func (.func 212) #[] #[.pointer (some ⟨pf, 0, none⟩), .pointer (some ⟨pe, 0, none⟩), .pointer (some ⟨pL, 0, none⟩)])
  (g2 : get fr 2 = .pointer (some ⟨dB, 0, none⟩)) (g3 : get fr 3 = .pointer (some ⟨pc, 0, none⟩)) (g7 : get fr 7 = .pointer (some ⟨p7, 0, none⟩)) (g8 : get fr 8 = .pointer (some ⟨p8, 0, none⟩)) (g11 : get fr 11 = .pointer (some ⟨p11, 0, none⟩))
  (hl : LnkP hL pl n x s L) (hS : Snd n x s L) (hs : Sub hL h) (hdB : hL[dB]? = some (.cells [.slice xa n xc, .int .i64 L] 24 (some 0))) (hx : CrossP hL xa n x s) (hpc : hL[pc]? = some (.cells [.int .i64 comp] 3 (some 0)))
  (h7 : h[p7]? = some (.cells [.pointer (some ⟨pl, 0, none⟩)] 155 (some 0))) (h8 : h[p8]? = some (.cells [emptyS] 34 (some 0))) (h11 : h[p11]? = some (.cells [.int .i64 0] 3 (some 0)))
  (ha0 : a0 < 2 * n) (hf : h[pf]? = some (.cells [.int .i64 a0] 3 (some 0))) (he : h[pe]? = some (.cells [.slice (some ⟨eb, 0, none⟩) (2 * n) (2 * n)] 215 (some 0))) (heb : h[eb]? = some (.cells (cellsL (finL (dgOf n x s L))) 72 (some 0))) (hLp : h[pL]? = some (.cells [.pointer (some ⟨pl, 0, none⟩)] 155 (some 0)))
  (l0 : f0 ≤ hL.length) (l8 : hL.length ≤ p8) (l11 : hL.length ≤ p11) (n1 : p7 ≠ p8) (n2 : p7 ≠ p11) (n3 : p8 ≠ p11) (n4 : pf ≠ p11)
  (hQ : ∀ h' ov', (∀ (b : Nat) (o : O), h[b]? = some o → b ≠ p8 → b ≠ p11 → h'[b]? = some o) → h'[p8]? = some (.cells [ov'] 34 (some 0)) → h'[p11]? = some (.cells [.int .i64 (ownT (dgOf n x s L) comp a0 (perA (dgOf n x s L) a0))] 3 (some 0)) →
   OwnT h' h.length ov' (wordT (dgOf n x s L) a0 (perA (dgOf n x s L) a0)).length (intsC (wordT (dgOf n x s L) a0 (perA (dgOf n x s L) a0))) 3 1 → Q .normal fr ⟨h', f0⟩) :
  DW E (.rangeF (.tmp 43) [44] 98 (lcA 70 0) (lcB 70 0)) fr ⟨h, f0⟩ Q := by
 obtain ⟨G, hGe⟩ : ∃ G, G = dgOf n x s L := ⟨_, rfl⟩
 have hG : GoodG G := by rw [hGe]; exact good_of hS
 have hGn : G.n = n := by rw [hGe]; rfl
 have hGs : G.s = s := by rw [hGe]; rfl
 have hsz := hS.size
 rw [← hGe] at heb hQ
 have haG : a0 < 2 * G.n := by rw [hGn]; exact ha0
 obtain ⟨⟨pm, pend, ple⟩, pmid⟩ := perA_spec hG haG
 have lp8 := (List.getElem?_eq_some_iff.1 h8).1
 have lp11 := (List.getElem?_eq_some_iff.1 h11).1
 have lp7 := (List.getElem?_eq_some_iff.1 h7).1
 have lpf := (List.getElem?_eq_some_iff.1 hf).1
 have lpe := (List.getElem?_eq_some_iff.1 he).1
 have leb := (List.getElem?_eq_some_iff.1 heb).1
 have lpL := (List.getElem?_eq_some_iff.1 hLp).1
 have hsl := hs.len
 refine DW_rangeF (f := 212) (vs := [tok h.length, .pointer (some ⟨pf, 0, none⟩), .pointer (some ⟨pe, 0, none⟩), .pointer (some ⟨pL, 0, none⟩)]) (by simp [g43]) (by decide) ?_
 obtain ⟨hK, hhK⟩ : ∃ H, H = h ++ [O.loop false 98 fr [44] (lcA 70 0) (lcB 70 0)] := ⟨_, rfl⟩
 have lK : hK.length = h.length + 1 := by rw [hhK]; simp
 have KK : ∀ (b : Nat) (o : O), h[b]? = some o → hK[b]? = some o := fun b o hb => by rw [hhK]; exact app_of hb _
 have kk : hK[h.length]? = some (.loop false 98 fr [44] (lcA 70 0) (lcB 70 0)) := by rw [hhK, app_at0]; rfl
 rw [← hhK, ← lK]
 have hlsub := fun (h' : List O) (hk : Sub hL h') => hl.sub hk
 have key := walk1_ hE hG (pl := pl) (k := h.length) (pf := pf) (pe := pe) (pL := pL) (eb := eb) (N := hK.length) (m := perA G a0) haG pm pend pmid
  (I := fun i h' f' => hL.length ≤ f' ∧ (0 < i → f' < hK.length) ∧ hK.length ≤ h'.length ∧ (∀ (b : Nat) (o : O), hK[b]? = some o → b ≠ p8 → b ≠ p11 → h'[b]? = some o) ∧
   ∃ ov, h'[p8]? = some (.cells [ov] 34 (some 0)) ∧ h'[p11]? = some (.cells [.int .i64 (ownT G comp a0 i)] 3 (some 0)) ∧ OwnT h' hK.length ov (wordT G a0 i).length (intsC (wordT G a0 i)) 3 1)
  ?_ ?_ (h := hK) ?_ rfl
 ·refine key.imp ?_
  rintro o ⟨h', f'⟩ ⟨rfl, i1, i2, i3, i4, ov, i5, i6, i7⟩
  simp only at i1 i2 i3 i4 i5 i6 i7
  have hf := i2 pm
  refine ⟨⟨_, rfl⟩, ⟨h'.set h.length .dead, f0⟩, ?_, ?_⟩
  ·have hfm : min f0 h.length = f0 := by omega
   rw [joined_min (f := f0) (H := hK) (h := h') (by omega) hf, over_eq (i4 _ _ kk (by omega) (by omega)), hfm]
  ·refine hQ (h'.set h.length .dead) ov (fun b o hb h1 h2 => ?_) ?_ ?_ ?_
   ·have := (List.getElem?_eq_some_iff.1 hb).1
    exact set_ne (i4 _ _ (KK _ _ hb) h1 h2) (by omega)
   ·exact set_ne i5 (by omega)
   ·exact set_ne i6 (by omega)
   ·have : OwnT h' h.length ov (wordT G a0 (perA G a0)).length (intsC (wordT G a0 (perA G a0))) 3 1 := by
     rcases i7 with h1 | ⟨h1, h2 | ⟨b, s', h3, h4, h5, h6⟩⟩
     ·exact .inl h1
     ·exact .inr ⟨h1, .inl h2⟩
     ·exact .inr ⟨h1, .inr ⟨b, s', h3, by omega, h5, h6⟩⟩
    rcases i7 with h1 | ⟨h1, h2 | ⟨b, s', h3, h4, h5, h6⟩⟩
    ·exact .inl h1
    ·exact .inr ⟨h1, .inl h2⟩
    ·exact .inr ⟨h1, .inr ⟨b, s', h3, by omega, set_ne h5 (by omega), h6⟩⟩
 ·rintro i h' f' ⟨i1, i2, i3, i4, _⟩
  have hsub' : Sub hL h' := fun b o hb => by
   have := (List.getElem?_eq_some_iff.1 hb).1
   exact i4 _ _ (KK _ _ (hs b o hb)) (by omega) (by omega)
  have hp8n : ∀ b c el, h[b]? = some (.cells c el (some 0)) → el ≠ 34 → b ≠ p8 := fun b c el hb hne e => by
   subst e; rw [hb] at h8; simp at h8; exact hne h8.2
  have hp11n : ∀ b c el, h[b]? = some (.cells c el (some 0)) → el ≠ 3 → b ≠ p11 := fun b c el hb hne e => by
   subst e; rw [hb] at h11; simp at h11; exact hne h11.2
  refine ⟨i4 _ _ (KK _ _ hf) (hp8n _ _ _ hf (by decide)) n4, ?_, ?_, ?_, ?_, i2⟩
  ·rw [hGn]; exact i4 _ _ (KK _ _ he) (hp8n _ _ _ he (by decide)) (hp11n _ _ _ he (by decide))
  ·exact i4 _ _ (KK _ _ heb) (hp8n _ _ _ heb (by decide)) (hp11n _ _ _ heb (by decide))
  ·exact i4 _ _ (KK _ _ hLp) (hp8n _ _ _ hLp (by decide)) (hp11n _ _ _ hLp (by decide))
  ·obtain ⟨uv, xa', xc', ab, cb, mb, z1, z2, z3, z4, z5, hO, hk'⟩ := hl.sub hsub'
   refine ⟨uv, xa', xc', L, _, _, _, _, _, by rw [hGn]; exact z1, ?_⟩
   rw [hGn, hGs]
   obtain ⟨xb, xo, y1, y2⟩ := z2
   refine ⟨xb, xo, y1, fun i hi => ?_⟩
   rw [y2 i hi, crossC_toNat hS hi, hGe]
   rfl
 ·rintro i h' f' him ⟨i1, i2, i3, i4, ov, i5, i6, i7⟩
  have hsub' : Sub hL h' := fun b o hb => by
   have := (List.getElem?_eq_some_iff.1 hb).1
   exact i4 _ _ (KK _ _ (hs b o hb)) (by omega) (by omega)
  obtain ⟨t0, t1, t2, t3, _⟩ := hG.T _ ((nx_perm hG).itr_lt haG i)
  have hwl := wordT_len G a0 i
  have hol := ownT_le hG (k := comp) haG i
  have hround := roundL_ hE (h := h') (hL := hL) (f := f') (k := h.length) (N := hK.length) (base := hL.length) (i := i) (c := G.T (itr (nx G) a0 i) 2) (p := G.T (itr (nx G) a0 i) 3) (ws := wordT G a0 i) (sm := ownT G comp a0 i)
   (i4 _ _ kk (by omega) (by omega)) g2 g3 g7 g8 g11 hl hS hsub' hdB hx hpc (i4 _ _ (KK _ _ h7) n1 n2) i5 i6 i7 i3 (by omega) (by omega) (by rw [← hGn]; exact t2) t3 (Nat.le_refl _) (by omega) l8 l11 (by omega) i1 (by omega) (by omega) (by omega) n1 n2 n3
  rw [← hGe] at hround
  refine hround.imp ?_
  rintro o st' ⟨rfl, h2, f2, ov2, hj, j1, j2, j3, j4, j5, j6, j7⟩
  rw [hj]
  refine ⟨rfl, j1, fun _ => by simp only; omega, by simp only; omega, fun b o hb h1 h2 => ?_, ov2, j3, j4, j5⟩
  exact j7 b o (List.getElem?_eq_some_iff.1 hb).1 (i4 b o hb h1 h2) h1 h2
 ·exact ⟨by omega, fun h => absurd h (Nat.lt_irrefl _), Nat.le_refl _, fun b o hb _ _ => hb, emptyS, KK _ _ h8, KK _ _ h11, .inl ⟨rfl, rfl, rfl⟩⟩
end Go.Proofs.Ytjlkndkedknocaa
namespace Go.Ai
def SmallL (ws : List Int) : Prop := ∀ y ∈ ws, -1000 ≤ y ∧ y ≤ 1000
theorem SmallL.nth {ws : List Int} (h : SmallL ws) (i : Nat) : -1000 ≤ nth ws i ∧ nth ws i ≤ 1000 := by
 by_cases hi : i < ws.length
 ·exact h _ (nth_mem hi)
 ·rw [nth_ge (by omega)]; omega
theorem SmallL.app {a b : List Int} (h : SmallL a) (k : SmallL b) : SmallL (a ++ b) := fun y hy => by
 rcases List.mem_append.1 hy with h1 | h1
 ·exact h y h1
 ·exact k y h1
theorem SmallL.rep {n : Nat} {m : Int} (h : -1000 ≤ m ∧ m ≤ 1000) : SmallL (List.replicate n m) := fun y hy => by
 rw [List.mem_replicate] at hy
 rw [hy.2]; exact h
theorem OwnT.ints {h : List O} {lo : Nat} {v : Value} {ws : List Int} {el : TypeId} (ho : OwnT h lo v ws.length (intsC ws) el 1) (hs : SmallL ws) (hl : ws.length < 2 ^ 62) : Ints h v ws := by
 have h64 : ∀ i, I64 (Ai.nth ws i) := fun i => by have := hs.nth i; constructor <;> omega
 rcases ho with ⟨rfl, h1, h2⟩ | ho
 ·have : ws = [] := List.length_eq_zero_iff.1 h1
  subst this
  exact ⟨_, 0, 0, 0, rfl, fun h => absurd h (by simp), fun i hi => absurd hi (by simp), h64, hl⟩
 ·rcases ho.2 with ⟨rfl, h1⟩ | ⟨b, s, rfl, h1, h2, _⟩
  ·have : ws = [] := List.length_eq_zero_iff.1 h1
   subst this
   exact Ints.nil
  ·exact ⟨_, b, 0, _, rfl, fun _ => rfl, fun i hi => by rw [rd_def, h2, Nat.zero_add]; exact intsC_get hi, h64, hl⟩
end Go.Ai
namespace Go.Proofs.Ytjlkndkedknocaa
open Go Go.Ai
attribute [local instance] Classical.propDecidable
theorem wordT_small {G : Dg} (hG : GoodG G) {a : Nat} (ha : a < 2 * G.n) : ∀ i, SmallL (wordT G a i) := by
 intro i
 induction i with
 | zero => intro y hy; simp [wordT] at hy
 | succ i ih =>
  refine ih.app fun y hy => ?_
  unfold wordP at hy
  split at hy
  ·simp at hy
   obtain ⟨t0, t1, t2, t3, _⟩ := hG.T _ ((nx_perm hG).itr_lt ha i)
   have hg := gen_le hG t2 (show 1 < 4 by omega)
   have hc := arC_le G
   have hz := hG.size
   have e : (finT G (itr (nx G) a i)).1 = G.T (itr (nx G) a i) 2 := rfl
   rw [e] at hy
   rcases hG.sign _ t2 with h | h <;> rw [h] at hy <;> omega
  ·simp at hy
noncomputable def lonS (G : Dg) (k : Int) : Int := ownT G k (fstA G k).toNat (perA G (fstA G k).toNat)
noncomputable def lonD (G : Dg) (k : Int) : List Int := if 0 ≤ fstA G k then wordT G (fstA G k).toNat (perA G (fstA G k).toNat) ++ List.replicate (lonS G k).toNat (-(merD G k)) ++ List.replicate (-(lonS G k)).toNat (merD G k) else []
def LonP (h0 : List O) (ws : List Int) (v : Value) (st' : St) : Prop := Sub h0 st'.h ∧ h0.length ≤ st'.fl ∧ Ints st'.h v ws
structure LwI (h0 h : List O) (lo p8 p11 : Nat) (sm : Int) (ov : Value) (ws : List Int) : Prop where
 sub : Sub h0 h
 b8 : AtB h p8 (.cells [ov] 34 (some 0))
 b11 : AtB h p11 (.cells [.int .i64 sm] 3 (some 0))
 own : OwnT h lo ov ws.length (intsC ws) 3 1
 small : SmallL ws
 lo_ : lo ≤ h.length
theorem LwI.add {h0 h : List O} {lo p8 p11 : Nat} {sm sm' m : Int} {ov : Value} {ws : List Int} (hI : LwI h0 h lo p8 p11 sm ov ws) (hm : -1000 ≤ m ∧ m ≤ 1000) (l0 : h0.length ≤ p8) (l1 : h0.length ≤ p11) (l8 : p8 < lo) (l11 : p11 < lo) (hne : p8 ≠ p11) (hw : ws.length ≤ 10000) :
  ∃ b' H4, appendV 3 1 8 ov (.slice (some ⟨h.length, 0, none⟩) 1 1) ⟨h ++ [.cells [.int .i64 m] 3 (some 0)], h0.length⟩ = some (.slice (some ⟨b', 0, none⟩) (ws.length + 1) (ws.length + 1), ⟨H4, h0.length⟩) ∧
   H4[p8]? = some (.cells [ov] 34 (some 0)) ∧ H4[p11]? = some (.cells [.int .i64 sm] 3 (some 0)) ∧
   LwI h0 ((H4.set p8 (.cells [.slice (some ⟨b', 0, none⟩) (ws.length + 1) (ws.length + 1)] 34 (some 0))).set p11 (.cells [.int .i64 sm'] 3 (some 0))) lo p8 p11 sm' (.slice (some ⟨b', 0, none⟩) (ws.length + 1) (ws.length + 1)) (ws ++ [m]) := by
 have hread : readSlice (h ++ [.cells [.int .i64 m] 3 (some 0)]) 1 1 (some ⟨h.length, 0, none⟩) = some [.int .i64 m] := by simp [readSlice, rdN_at0]
 have hlo := hI.lo_
 obtain ⟨b', H4, f4, happ, hb', hown, hf1, hf2, hL4, K4⟩ := append_T (fl := h0.length) (c := 1) (bytes := 8) (hI.own.keep (h' := h ++ [.cells [.int .i64 m] 3 (some 0)]) fun b s _ _ e => app_of e _) hread (by simp) (by simp) (by simp; omega) (by simp only [roomMax]; omega) (by omega)
 obtain rfl : f4 = h0.length := by omega
 have k8 := K4 _ _ (app_of hI.b8 _) (.inl l8)
 have k11 := K4 _ _ (app_of hI.b11 _) (.inl l11)
 refine ⟨b', H4, happ, k8, k11, fun b o hb => ?_, set_ne (set_self k8) hne, set_self (set_ne k11 (Ne.symm hne)), ?_, hI.small.app (fun y hy => by simp at hy; rw [hy]; exact hm), by simp at hL4 ⊢; omega⟩
 ·have := (List.getElem?_eq_some_iff.1 hb).1
  exact set_ne (set_ne (K4 _ _ (app_of (hI.sub b o hb) _) (.inl (by omega))) (by omega)) (by omega)
 ·have : OwnT H4 lo (.slice (some ⟨b', 0, none⟩) (ws.length + 1) (ws.length + 1)) (ws ++ [m]).length (intsC (ws ++ [m])) 3 1 := by simpa [intsC] using hown
  exact this.keep fun b s e1 e2 e3 => set_ne (set_ne e3 (by omega)) (by omega)
variable {E : Env} (hE : OE E)
include hE
theorem longitude_ (hWk : ∀ (h : List O) (pl n : Nat) (x : Nat → Nat → Int) (s : Nat → Int) (L i : Int), LnkP h pl n x s L → Snd n x s L → DR E 148 [.pointer (some ⟨pl, 0, none⟩), .int .i64 i] ⟨h, h.length⟩ (.ret (walkV h)) ⟨walkM h pl i (dgOf n x s L), h.length⟩)
  {h0 : List O} {a : Option Addr} {n c : Nat} {x : Nat → Nat → Int} {s : Nat → Int} {L : Int} (hx : CrossP h0 a n x s) (k : Int) :
  DC E 70 [dV a n c L, .int .i64 k] ⟨h0, h0.length⟩ fun o st' => (kindD n x s L ≠ 0 ∧ o = .ret (.tuple #[.slice none 0 0, .int .i64 (kindD n x s L)]) ∧ st' = ⟨h0, h0.length⟩) ∨
   (kindD n x s L = 0 ∧ ¬ (0 ≤ k ∧ k < cpK (dgOf n x s L) + L) ∧ o = .ret (.tuple #[.slice none 0 0, .int .i64 1]) ∧ st' = ⟨h0, h0.length⟩) ∨
   (kindD n x s L = 0 ∧ (0 ≤ k ∧ k < cpK (dgOf n x s L) + L) ∧ ∃ v, o = .ret (.tuple #[v, .int .i64 0]) ∧ LonP h0 (lonD (dgOf n x s L) k) v st') := by
 refine hE.fnC (body := rb70) rfl ?_
 unfold rb70
 have hx1 : CrossP (h0 ++ [O.cells [.slice a n c, .int .i64 L] 24 (some 0), O.cells [.int .i64 k] 3 (some 0)]) a n x s := hx.ext (Ext.snoc _ _)
 have h1 := check_ hE (c := c) (L := L) hx1
 simp [dV] at h1
 by_cases hk : kindD n x s L = 0
 ·have h2 := newLinkC_ hE (c := c) hx1 hk
  simp [dV] at h2
  have hS := (kind_zero hk).1
  simp [dV, rdN_at0, joined_fl, DC_of h1, hk, List.append_assoc]
  refine h2.imp ?_
  rintro o ⟨h3, f3⟩ ⟨pl, rfl, hp, hf, hs, hl⟩
  simp only at hf hs hl
  have hs0 : Sub h0 h3 := ((Sub.refl h0).app _).trans hs
  have hd0 : h3[h0.length]? = some (O.cells [.slice a n c, .int .i64 L] 24 (some 0)) := hs _ _ (by rw [app_at0]; rfl)
  have hd1 : h3[h0.length + 1]? = some (O.cells [.int .i64 k] 3 (some 0)) := hs _ _ (by rw [app_at]; rfl)
  have hlen := hs.len
  simp at hlen
  have hl' := hl
  obtain ⟨uv, xa', xc', ab, cb, mb, z1, z2, z3, z4, z5, hO, hk'⟩ := hl'
  unfold linkC at z1
  have hd0' : ∀ l, (h3 ++ l)[h0.length]? = _ := fun l => app_of hd0 l
  have hd1' : ∀ l, (h3 ++ l)[h0.length + 1]? = _ := fun l => app_of hd1 l
  have z1' : ∀ l, (h3 ++ l)[pl]? = _ := fun l => app_of z1 l
  have hmin : min h0.length h3.length = h0.length := by omega
  by_cases c1 : 0 ≤ k ∧ k < cpK (dgOf n x s L) + L
  ·have c1' : ¬ k < 0 := by omega
   have c2' : ¬ (cpK (dgOf n x s L) : Int) + L ≤ k := by omega
   have b2 : one1 emptyS = true := rfl
   have b3 : emptyS.cells = #[emptyS] := rfl
   have hmin2 : min h0.length (h3.length + 1) = h0.length := by omega
   have hmin3 : min h0.length (h3.length + 2) = h0.length := by omega
   obtain ⟨G, hGe⟩ : ∃ G, G = dgOf n x s L := ⟨_, rfl⟩
   have hG : GoodG G := by rw [hGe]; exact good_of hS
   have hGn : G.n = n := by rw [hGe]; rfl
   have hfi := first_ hE (hl.sub ((Sub.refl h3).app [O.cells [.pointer (some ⟨pl, 0, none⟩)] 155 (some 0), .cells [emptyS] 34 (some 0)])) hS.size hS.loops c1
   simp at hfi
   rw [← hGe] at hfi ⊢
   have hfl := fstA_lt (G := G) (k := k)
   rw [hGn] at hfl
   simp [joined_fl, hf, wrN_at0, set_at0, hmin, rd_def, rd_at0, hd0', hd1', app_at0, z1', c1, c1', c2', wrN_at, set_at, b2, b3, hmin2, app_at, DC_of hfi, List.append_assoc]
   by_cases h0' : 0 ≤ fstA G k
   ·have h0'' : ¬ fstA G k < 0 := by omega
    obtain ⟨a0, ha0⟩ : ∃ a0 : Nat, fstA G k = a0 := ⟨(fstA G k).toNat, by omega⟩
    have ha0' : (fstA G k).toNat = a0 := by omega
    have ha0n : a0 < 2 * n := by omega
    have ha0z : ¬ ((a0 : Int) < 0) := by omega
    obtain ⟨H, hH⟩ : ∃ H, H = h3 ++ [O.cells [.pointer (some ⟨pl, 0, none⟩)] 155 (some 0), .cells [emptyS] 34 (some 0), .cells [.int .i64 0] 3 (some 0)] := ⟨_, rfl⟩
    have hlH : H.length = h3.length + 3 := by rw [hH]; simp
    have hsH : Sub h3 H := by rw [hH]; exact (Sub.refl _).app _
    have hwk := hWk H pl n x s L a0 (hl.sub hsH) hS
    have q7 : H[h3.length]? = some (.cells [.pointer (some ⟨pl, 0, none⟩)] 155 (some 0)) := by rw [hH, app_at0]; rfl
    have q8 : H[h3.length + 1]? = some (.cells [emptyS] 34 (some 0)) := by rw [hH, app_at]; rfl
    have q11 : H[h3.length + 2]? = some (.cells [.int .i64 0] 3 (some 0)) := by rw [hH, app_at]; rfl
    have hwr : wrN H (h3.length + 2) 0 [Value.int .i64 0] = some H := by
     rw [wrN_def, q11]
     simp [set_same q11]
    have hrd7 : rd H h3.length 0 = some (.pointer (some ⟨pl, 0, none⟩)) := by rw [rd_def, q7]; rfl
    simp [h0', h0'', ha0z, hwr, hrd7, wrN_at, set_at, app_at, app_at0, hmin3, ha0, ← hH, DC_of hwk, q7]
    obtain ⟨M, hM⟩ : ∃ M, M = walkM H pl a0 (dgOf n x s L) := ⟨_, rfl⟩
    have hsM : Sub H M := by rw [hM]; unfold walkM; rw [List.append_assoc]; exact (Sub.refl _).app _
    have hlM : H.length + 4 < M.length := by rw [hM]; simp [walkM]; omega
    have m0 : M[H.length]? = some (.cells [.pointer (some ⟨pl, 0, none⟩)] 155 (some 0)) := by rw [hM]; unfold walkM; rw [List.append_assoc, app_at0]; rfl
    have m1 : M[H.length + 1]? = some (.cells [.int .i64 a0] 3 (some 0)) := by rw [hM]; unfold walkM; rw [List.append_assoc, app_at]; rfl
    have m2 : M[H.length + 2]? = some (.cells (cellsL (finL (dgOf n x s L))) 72 (some 0)) := by rw [hM]; unfold walkM; rw [List.append_assoc, app_at]; rfl
    have m3 : M[H.length + 3]? = some (.cells [.slice (some ⟨H.length + 2, 0, none⟩) (2 * n) (2 * n)] 215 (some 0)) := by rw [hM]; unfold walkM; rw [List.append_assoc, app_at]; rfl
    rw [← hM]
    refine rangeL_ hE (hL := h3) (pl := pl) (n := n) (dB := h0.length) (pc := h0.length + 1) (p7 := h3.length) (p8 := h3.length + 1) (p11 := h3.length + 2) (pf := H.length + 1) (pe := H.length + 3) (pL := H.length) (eb := H.length + 2) (a0 := a0) (comp := k) (ov := emptyS)
     (by simp [walkV]) (by simp) (by simp) (by simp) (by simp) (by simp) hl hS (hsH.trans hsM) hd0 (hx1.sub hs) hd1 (hsM _ _ q7) (hsM _ _ q8) (hsM _ _ q11) ha0n m1 m3 m2 m0 (by omega) (by omega) (by omega) (by omega) (by omega) (by omega) (by omega) ?_
    intro h' ov' hkeep r8 r11 hown
    rw [← hGe] at hown r11
    have hS0 : lonS G k = ownT G k a0 (perA G a0) := by unfold lonS; rw [ha0']
    have haG : a0 < 2 * G.n := by rw [hGn]; exact ha0n
    have hmer : merD G k = arN G a0 + 1 := by unfold merD; rw [if_pos h0', ha0']
    have hsz := hS.size
    have hml := arN_lt haG
    have hac := arC_le G
    rw [hGn] at hac
    have hper := (perA_spec hG haG).1.2.2
    rw [hGn] at hper
    have hSb := ownT_le hG (k := k) haG (perA G a0)
    rw [← hS0] at hSb r11
    have hmb : -1000 ≤ merD G k ∧ merD G k ≤ 1000 := by rw [hmer]; omega
    obtain ⟨m, hme⟩ : ∃ m, m = merD G k := ⟨_, rfl⟩
    obtain ⟨S, hSe⟩ : ∃ S, S = lonS G k := ⟨_, rfl⟩
    rw [← hSe] at hSb r11
    rw [← hme] at hmb ⊢
    have hsub0 : Sub h0 h' := fun b o hb => by
     have := (List.getElem?_eq_some_iff.1 hb).1
     exact hkeep b o (hsM _ _ (hsH _ _ (hs0 b o hb))) (by omega) (by omega)
    have hwl := wordT_len G a0 (perA G a0)
    obtain ⟨W, hW⟩ : ∃ W, W = wordT G a0 (perA G a0) := ⟨_, rfl⟩
    have hWs : SmallL W := by rw [hW]; exact wordT_small hG haG _
    rw [← hW] at hown hwl
    have hlon : lonD G k = W ++ List.replicate S.toNat (-m) ++ List.replicate (-S).toNat m := by
     unfold lonD; rw [if_pos h0', ha0', ← hW, ← hSe, ← hme]
    have hMl : M.length ≤ h'.length := by
     have hk2 : Sub (M.take (h3.length + 1)) h' := fun b o hb => by
      have hbl := (List.getElem?_eq_some_iff.1 hb).1
      rw [List.getElem?_take] at hb
      split at hb
      ·exact hkeep b o hb (by omega) (by omega)
      ·cases hb
     apply Classical.byContradiction
     intro hcon
     have hlast : M[M.length - 1]? = some M[M.length - 1] := List.getElem?_eq_getElem (by omega)
     have := (List.getElem?_eq_some_iff.1 (hkeep _ _ hlast (by omega) (by omega))).1
     omega
    have hI0 : LwI h0 h' M.length (h3.length + 1) (h3.length + 2) S ov' W := ⟨hsub0, r8, r11, hown, hWs, hMl⟩
    have l8 : h3.length + 1 < M.length := by omega
    have l11 : h3.length + 2 < M.length := by omega
    have hmn1 : min h0.length (h3.length + 1) = h0.length := by omega
    have hmn2 : min h0.length (h3.length + 2) = h0.length := by omega
    simp
    refine DW_loop (fun kk fr st => ∃ (sm : Int) (h : List O) (ov : Value) (ws : List Int), kk = sm.toNat ∧ st = ⟨h, h0.length⟩ ∧ LwI h0 h M.length (h3.length + 1) (h3.length + 2) sm ov ws ∧ sm ≤ 400 ∧ (S < 0 → sm = S) ∧ (0 ≤ S → 0 ≤ sm) ∧ ws.length + sm.toNat ≤ 1000 ∧ ws ++ List.replicate sm.toNat (-m) = W ++ List.replicate S.toNat (-m) ∧
     get fr 8 = .pointer (some ⟨h3.length + 1, 0, none⟩) ∧ get fr 10 = .int .i64 m ∧ get fr 11 = .pointer (some ⟨h3.length + 2, 0, none⟩)) ?_ (k := S.toNat) ?_
    ·rintro kk fr st ⟨sm, h, ov, ws, rfl, rfl, hI, hs4, hs1, hs2, hwsl, heq, g8, g10, g11⟩
     have r8 := hI.b8
     have r11 := hI.b11
     unfold AtB at r8 r11
     by_cases hpos : 0 < sm
     ·have hwn : IntKind.i64.wrap (-m) = -m := by rw [w64_id] <;> omega
      have hws : IntKind.i64.wrap (sm - 1) = sm - 1 := by rw [w64_id] <;> omega
      obtain ⟨b', H4, happ, k8, k11, hI4⟩ := hI.add (m := -m) (sm' := sm - 1) (by omega) (by omega) (by omega) l8 l11 (by omega) (by omega)
      have k11' : ∀ o, (H4.set (h3.length + 1) o)[h3.length + 2]? = some (.cells [.int .i64 sm] 3 (some 0)) := fun o => set_ne k11 (by omega)
      simp [g8, g10, g11, rd_def, r8, r11, hpos, hwn, happ, wrN_def, k8, k11', hws, hmn1, hmn2, -List.length_append]
      refine ⟨(sm - 1).toNat, by omega, sm - 1, rfl, _, ws ++ [-m], hI4, by omega, by omega, by omega, by simp; omega, ?_⟩
      rw [← heq, List.append_assoc]
      congr 1
      rw [show sm.toNat = (sm - 1).toNat + 1 by omega]
      rfl
     ·simp [g8, g10, g11, rd_def, r8, r11, hpos]
      have hsz0 : sm.toNat = 0 := by omega
      rw [hsz0] at heq
      simp at heq
      refine DW_loop (fun kk fr st => ∃ (sm : Int) (h : List O) (ov : Value) (ws : List Int), kk = (-sm).toNat ∧ st = ⟨h, h0.length⟩ ∧ LwI h0 h M.length (h3.length + 1) (h3.length + 2) sm ov ws ∧ -400 ≤ sm ∧ sm ≤ 0 ∧ ws.length + (-sm).toNat ≤ 2000 ∧ ws ++ List.replicate (-sm).toNat m = W ++ List.replicate S.toNat (-m) ++ List.replicate (-S).toNat m ∧
       get fr 8 = .pointer (some ⟨h3.length + 1, 0, none⟩) ∧ get fr 10 = .int .i64 m ∧ get fr 11 = .pointer (some ⟨h3.length + 2, 0, none⟩)) ?_ (k := (-sm).toNat) ?_
      ·clear hI hs4 hs1 hs2 hwsl heq g8 g10 g11 r8 r11 hpos hsz0
       clear sm h ov ws
       rintro kk fr st ⟨sm, h, ov, ws, rfl, rfl, hI, hs4, hs1, hwsl, heq, g8, g10, g11⟩
       have r8 := hI.b8
       have r11 := hI.b11
       unfold AtB at r8 r11
       by_cases hneg : sm < 0
       ·have hws : IntKind.i64.wrap (sm + 1) = sm + 1 := by rw [w64_id] <;> omega
        obtain ⟨b', H4, happ, k8, k11, hI4⟩ := hI.add (m := m) (sm' := sm + 1) (by omega) (by omega) (by omega) l8 l11 (by omega) (by omega)
        have k11' : ∀ o, (H4.set (h3.length + 1) o)[h3.length + 2]? = some (.cells [.int .i64 sm] 3 (some 0)) := fun o => set_ne k11 (by omega)
        simp [g8, g10, g11, rd_def, r8, r11, hneg, happ, wrN_def, k8, k11', hws, hmn1, hmn2, -List.length_append]
        refine ⟨(-(sm + 1)).toNat, by omega, sm + 1, rfl, _, ws ++ [m], hI4, by omega, by omega, by simp; omega, ?_⟩
        rw [← List.append_assoc, ← heq, List.append_assoc]
        congr 1
        rw [show (-sm).toNat = (-(sm + 1)).toNat + 1 by omega]
        rfl
       ·have hsz0 : (-sm).toNat = 0 := by omega
        rw [hsz0] at heq
        simp at heq
        simp [g8, g10, g11, rd_def, r8, r11, hneg, endK_ret]
        unfold pairQ back
        rw [hlon, List.append_assoc, ← heq]
        have hints := hI.own.ints hI.small (by omega)
        split
        ·rename_i hc
         have hflv : flat ov = true := by
          obtain ⟨va, hva, _⟩ := hI.own.look
          rw [hva] at hc ⊢
          simp [Out.scalar, scalar, flat1] at hc
          first | exact hc.1 | exact hc
         exact .inr ⟨by rw [hGe]; exact c1.2, ov, rfl, Sub.refl _, Nat.le_refl _, hints.flat hflv⟩
        ·exact .inr ⟨by rw [hGe]; exact c1.2, ov, rfl, hI.sub, Nat.le_refl _, hints⟩
      ·refine ⟨sm, h, ov, ws, rfl, rfl, hI, by omega, by omega, by omega, ?_, by simp [g8, g10, g11]⟩
       rw [heq]
       congr 2
       omega
    ·exact ⟨S, h', ov', W, rfl, rfl, hI0, by omega, fun _ => rfl, fun h => h, by omega, rfl, by simp [hme]⟩
   ·have hf1 : fstA G k < 0 := by omega
    have hln : lonD G k = [] := if_neg h0'
    simp [h0', hf1, hk, rd_at, endK_ret, rdO, app_at]
    have hfe : (Out.ret (.tuple #[emptyS, .int .i64 0])).scalar = true := rfl
    unfold pairQ
    rw [back_scalar hfe (Nat.le_refl _), hln]
    exact .inr ⟨by rw [hGe]; exact c1.2, emptyS, rfl, Sub.refl _, Nat.le_refl _, _, 0, 0, 0, rfl, fun h => absurd h (by simp), fun i hi => absurd hi (by simp), fun i => by simp [nth, I64], by simp⟩
  ·by_cases d1 : 0 ≤ k
   ·have d1' : ¬ k < 0 := by omega
    have d2' : (cpK (dgOf n x s L) : Int) + L ≤ k := by omega
    have c1' : ¬ (k < cpK (dgOf n x s L) + L) := by omega
    simp [joined_fl, hf, wrN_at0, set_at0, hmin, rd_def, rd_at0, hd0', hd1', app_at0, z1', d1, d1', d2', c1', endK_ret, back_scalar, Out.scalar, scalar, flat1, flat]
   ·have d1' : k < 0 := by omega
    simp [joined_fl, hf, wrN_at0, set_at0, hmin, rd_def, rd_at0, hd0', hd1', app_at0, z1', d1, d1', endK_ret, back_scalar, Out.scalar, scalar, flat1, flat]
 ·simp [dV, rdN_at0, joined_fl, DC_of h1, hk, endK_ret, back_scalar, Out.scalar, scalar, flat1, flat]
end Go.Proofs.Ytjlkndkedknocaa
namespace Go.Proofs.Ytjlkndkedknocaa
open Go Go.Ai
attribute [local instance] Classical.propDecidable
structure LqI (h : List O) (lo : Nat) (ov : Value) (ws : List Int) : Prop where
 own : OwnT h lo ov ws.length (intsC ws) 3 1
 small : SmallL ws
 lo_ : lo ≤ h.length
theorem LqI.app {h : List O} {lo : Nat} {ov : Value} {ws : List Int} (hI : LqI h lo ov ws) (l : List O) : LqI (h ++ l) lo ov ws :=
 ⟨hI.own.keep fun b s _ _ e => app_of e _, hI.small, by have := hI.lo_; simp; omega⟩
theorem LqI.add {h : List O} {lo fl : Nat} {m : Int} {ov : Value} {ws : List Int} (hI : LqI h lo ov ws) (hm : -1000 ≤ m ∧ m ≤ 1000) (hfl : fl ≤ lo) (hw : ws.length ≤ 10000) :
  ∃ b' H4, appendV 3 1 8 ov (.slice (some ⟨h.length, 0, none⟩) 1 1) ⟨h ++ [.cells [.int .i64 m] 3 (some 0)], fl⟩ = some (.slice (some ⟨b', 0, none⟩) (ws.length + 1) (ws.length + 1), ⟨H4, fl⟩) ∧
   (∀ (b : Nat) (o : O), (b < lo ∨ ∀ (cs : List Value) (s : Option Nat), o ≠ .cells cs 3 s) → h[b]? = some o → H4[b]? = some o) ∧ LqI H4 lo (.slice (some ⟨b', 0, none⟩) (ws.length + 1) (ws.length + 1)) (ws ++ [m]) := by
 have hread : readSlice (h ++ [.cells [.int .i64 m] 3 (some 0)]) 1 1 (some ⟨h.length, 0, none⟩) = some [.int .i64 m] := by simp [readSlice, rdN_at0]
 have hlo := hI.lo_
 obtain ⟨b', H4, f4, happ, hb', hown, hf1, hf2, hL4, K4⟩ := append_T (fl := fl) (c := 1) (bytes := 8) (hI.own.keep (h' := h ++ [.cells [.int .i64 m] 3 (some 0)]) fun b s _ _ e => app_of e _) hread (by simp) (by simp) (by simp; omega) (by simp only [roomMax]; omega) (by omega)
 obtain rfl : f4 = fl := by omega
 refine ⟨b', H4, happ, fun b o hb ho => K4 _ _ (app_of ho _) hb, ?_, hI.small.app (fun y hy => by simp at hy; rw [hy]; exact hm), by simp at hL4; omega⟩
 simpa [intsC] using hown
end Go.Proofs.Ytjlkndkedknocaa
namespace Go.Proofs.Ytjlkndkedknocaa
open Go Go.Ai
attribute [local instance] Classical.propDecidable
def LonR (h0 : List O) (ws : List Int) (o : Out) (st' : St) : Prop := ∃ v, o = .ret (.tuple #[v, .int .i64 0]) ∧ LonP h0 ws v st'
variable {E : Env} (hE : OE E)
include hE
end Go.Proofs.Ytjlkndkedknocaa
namespace Go.Proofs.Ytjlkndkedknocaa
open Go Go.Ai
attribute [local instance] Classical.propDecidable
noncomputable def lonE (n : Nat) (x : Nat → Nat → Int) (s : Nat → Int) (L k : Int) : Int := if kindD n x s L ≠ 0 then kindD n x s L else if 0 ≤ k ∧ k < cpK (dgOf n x s L) + L then 0 else 1
noncomputable def lonW (n : Nat) (x : Nat → Nat → Int) (s : Nat → Int) (L k : Int) : List Int := if kindD n x s L ≠ 0 then [] else if 0 ≤ k ∧ k < cpK (dgOf n x s L) + L then lonD (dgOf n x s L) k else []
noncomputable def merW (n : Nat) (x : Nat → Nat → Int) (s : Nat → Int) (L k : Int) : Int := if kindD n x s L ≠ 0 then 0 else if 0 ≤ k ∧ k < cpK (dgOf n x s L) + L then merD (dgOf n x s L) k else 0
def LonU (h0 : List O) (ws : List Int) (e : Int) (o : Out) (st' : St) : Prop := ∃ v, o = .ret (.tuple #[v, .int .i64 e]) ∧ Sub h0 st'.h ∧ h0.length ≤ st'.fl ∧ Ints st'.h v ws
variable {E : Env} (hE : OE E)
include hE
end Go.Proofs.Ytjlkndkedknocaa
namespace Go.Ai
theorem matP_of {h : List O} {v : Value} (hf : Fits h (.slice [.slice [.int .i64]]) v) : ∃ A, MatP h v A ∧ ∀ i, i < A.length → (nthR A i).length * 8 ≤ roomMax := by
 cases hf with
 | slice b o vs hn ha hr hv =>
  rename_i a n c
  have key : ∀ i, i < n → ∃ x xs, vs i = [x] ∧ Ints h x xs ∧ PartI h x ∧ xs.length * 8 ≤ roomMax := fun i hi => by
   have h1 := hr i hi
   have hl : (vs i).length = 1 := by
    unfold rdN at h1
    split at h1
    ·split at h1
     ·have := Option.some.inj h1
      rw [← this]
      simp at *
      omega
     ·cases h1
    ·cases h1
   obtain ⟨x, hx⟩ := List.length_eq_one_iff.1 hl
   have hfit := hv i 0 _ x hi rfl (by rw [hx]; rfl)
   obtain ⟨xs, hxs⟩ := ints_of hfit
   obtain ⟨k1, k2⟩ := ints_room hfit hxs
   exact ⟨x, xs, hx, hxs, k2, k1⟩
  have hnl : ((List.range n).map fun i => if hi : i < n then (key i hi).choose_spec.choose else []).length = n := by simp
  have hnth : ∀ i (hi : i < n), nthR ((List.range n).map fun i => if hi : i < n then (key i hi).choose_spec.choose else []) i = (key i hi).choose_spec.choose := fun i hi => by simp [nthR, hi]
  refine ⟨(List.range n).map fun i => if hi : i < n then (key i hi).choose_spec.choose else [], ⟨a, b, o, c, fun i => if hi : i < n then (key i hi).choose else undef, by simp, fun h0 => ha (by simpa using h0), fun i hi => ?_, by have h0 := hn.1; simp [reachBytes, szB] at h0 ⊢; omega⟩, fun i hi => ?_⟩
  ·simp at hi
   have hs := (key i hi).choose_spec.choose_spec
   have h1 := hr i hi
   rw [hs.1] at h1
   refine ⟨?_, ?_, ?_⟩
   ·rw [← rd_def]
    simp [hi]
    unfold rdN at h1
    unfold rd
    split at h1
    ·rename_i cc el own hb
     split at h1
     ·have h2 := Option.some.inj h1
      simp at h2
      have h3 : (List.take 1 (List.drop (o + i) cc))[0]? = some (key i hi).choose := by rw [h2]; simp
      rw [List.getElem?_take_of_lt (by omega), List.getElem?_drop] at h3
      simpa using h3
     ·cases h1
    ·cases h1
   ·rw [hnth i hi]
    simp only [hi, dif_pos]
    exact hs.2.1
   ·simp only [hi, dif_pos]
    exact hs.2.2.1
  ·rw [hnl] at hi
   rw [hnth i hi]
   exact (key i hi).choose_spec.choose_spec.2.2.2
end Go.Ai
namespace Go.Ai
variable {E : Env}
@[simp] theorem quietOp_strIdx {a b} : quietOp (.strIdx a b) = true := rfl
@[simp] theorem DL_strIdx {a b} {dst : Option Nat} {anc : Nat} {os : List ROper} {fr st} {Q : Post} : DL E (⟨dst, none, .strIdx a b, anc⟩ :: os) fr st Q ↔ resQ (step (.strIdx a b) (ev fr) st) (stepK E dst os fr Q) := (DL_step' rfl).trans stepW_res
@[simp] theorem quietOp_strSl {a b c} : quietOp (.strSl a b c) = true := rfl
@[simp] theorem DL_strSl {a b c} {dst : Option Nat} {anc : Nat} {os : List ROper} {fr st} {Q : Post} : DL E (⟨dst, none, .strSl a b c, anc⟩ :: os) fr st Q ↔ resQ (step (.strSl a b c) (ev fr) st) (stepK E dst os fr Q) := (DL_step' rfl).trans stepW_res
@[simp] theorem DD_strSl {a b c} {i : Nat} {acc : List (Nat × FP)} {dst : Option Nat} {anc : Nat} {os : List ROper} {fr st} {Q : Post} : DD E i acc (⟨dst, none, .strSl a b c, anc⟩ :: os) fr st Q ↔ resQ (step (.strSl a b c) (ev fr) st) (stepKD E i acc ⟨dst, none, .strSl a b c, anc⟩ os fr st Q) := (DD_step' rfl).trans stepW_res
@[simp] theorem quietOp_strOf {a} : quietOp (.strOf a) = true := rfl
@[simp] theorem DL_strOf {a} {dst : Option Nat} {anc : Nat} {os : List ROper} {fr st} {Q : Post} : DL E (⟨dst, none, .strOf a, anc⟩ :: os) fr st Q ↔ resQ (step (.strOf a) (ev fr) st) (stepK E dst os fr Q) := (DL_step' rfl).trans stepW_res
variable {e : Operand → Value} {st : St}
@[simp] theorem step_strIdx {x i} : step (.strIdx x i) e st = valS (strIdxV (e x) (e i)) st := rfl
@[simp] theorem step_strSl {x lo hi} : step (.strSl x lo hi) e st = valS (strSlV (e x) (lo.map e) (hi.map e)) st := rfl
@[simp] theorem step_strOf {x} : step (.strOf x) e st = valS (strOfV st.h (e x)) st := rfl
@[simp] theorem fpOf_strIdx {a b} : fpOf (.strIdx a b) e st = {} := rfl
@[simp] theorem fpOf_strSl {a b c} : fpOf (.strSl a b c) e st = {} := rfl
@[simp] theorem fpOf_strOf {a} : fpOf (.strOf a) e st = { r := blk (e a) } := rfl
@[simp] theorem blk_str {s} : blk (.string s) = [] := rfl
@[simp] theorem binV_strEq {a b} : binV .eql (.string a) (.string b) = some (.bool (a.toList == b.toList)) := rfl
@[simp] theorem binV_strNe {a b} : binV .neq (.string a) (.string b) = some (.bool (!(a.toList == b.toList))) := rfl
@[simp] theorem lenV_str {h s} : lenV h 1 (.string s) = some (.int .i64 s.size) := rfl
def tkB (T s : ByteArray) (pos : Nat) : Bool := decide (pos + s.size ≤ T.size) && ((T.extract pos (pos + s.size)).toList == s.toList)
theorem strSl_at {T : ByteArray} {a b : Nat} (h : a ≤ b) (hb : b ≤ T.size) : strSlV (.string T) (some (.int .i64 a)) (some (.int .i64 b)) = some (.string (T.extract a b)) := by
 have h1 : (a : Int) ≤ b := by omega
 have h2 : (b : Int) ≤ T.size := by omega
 simp [strSlV, hiB, loB, bound, h, hb]
end Go.Ai
namespace Go.Proofs.Ytjlkndkedknocaa
open Go Go.Ai
attribute [local instance] Classical.propDecidable
variable {E : Env} (hE : OE E)
include hE
theorem take_ {h : List O} {r pos : Nat} {T s : ByteArray} {ok : Bool} (hr : h[r]? = some (.cells [.string T, .int .i64 pos, .bool ok] 223 (some 0))) (hT : T.size ≤ 200000) (hs : s.size ≤ 100) (hp : pos ≤ T.size) :
  DR E 182 [.pointer (some ⟨r, 0, none⟩), .string s] ⟨h, h.length⟩ (.ret (.bool (tkB T s pos))) (if tkB T s pos = true then ⟨h.set r (.cells [.string T, .int .i64 ((pos + s.size : Nat) : Int), .bool ok] 223 (some 0)), r⟩ else ⟨h, h.length⟩) := by
 refine hE.fn (body := rb182) rfl ?_
 unfold rb182
 have hw : IntKind.i64.wrap ((pos : Int) + (s.size : Int)) = ((pos + s.size : Nat) : Int) := by rw [w64_id] <;> omega
 have lr := (List.getElem?_eq_some_iff.1 hr).1
 by_cases h1 : pos + s.size ≤ T.size
 ·have h1' : ((pos + s.size : Nat) : Int) ≤ (T.size : Int) := by omega
  have hsl := strSl_at (T := T) (a := pos) (b := pos + s.size) (by omega) h1
  by_cases h2 : (T.extract pos (pos + s.size)).toList == s.toList
  ·have hb : tkB T s pos = true := by unfold tkB; simp [h1, h2]
   rw [hb]
   have hw' := hw
   push_cast at hw' h1' hsl
   simp [rd_def, hr, hw', h1', hsl, h2, wrN_def, endK_ret, back]
   rw [if_neg (by omega), show min h.length r = r by omega]
   exact ⟨rfl, rfl⟩
  ·have hb : tkB T s pos = false := by unfold tkB; simp [h2]
   rw [hb]
   have hw' := hw
   push_cast at hw' h1' hsl
   simp [rd_def, hr, hw', h1', hsl, h2, endK_ret, back]
 ·have h1' : ¬ ((pos + s.size : Nat) : Int) ≤ (T.size : Int) := by omega
  have hb : tkB T s pos = false := by unfold tkB; simp [h1]
  rw [hb]
  have hw' := hw
  push_cast at hw' h1'
  simp [rd_def, hr, hw', h1', endK_ret, back]
theorem decimal_ {h : List O} {n : Nat} {S : ByteArray} (hn : n < 10) (hS : ByteArray.empty.push (UInt8.ofNat (48 + (n : Int)).toNat) = S) : DR E 227 [.int .i64 n] ⟨h, h.length⟩ (.ret (.string S)) ⟨h, h.length⟩ := by
 refine hE.fn (body := rb227) rfl ?_
 unfold rb227
 have h1 : (n : Int) < 10 := by omega
 have hw : IntKind.i64.wrap (48 + (n : Int)) = 48 + (n : Int) := by rw [w64_id] <;> omega
 have hw8 : IntKind.u8.wrap (48 + (n : Int)) = 48 + (n : Int) := by
  match n, hn with
  | 0, _ => rfl
  | 1, _ => rfl
  | 2, _ => rfl
  | 3, _ => rfl
  | 4, _ => rfl
  | 5, _ => rfl
  | 6, _ => rfl
  | 7, _ => rfl
  | 8, _ => rfl
  | 9, _ => rfl
 have hsc : (Out.ret (Value.string S)).scalar = true := rfl
 simp [h1, hw, hw8, strOfV, byteS, hS, endK_ret, back, hsc]
theorem number_ {h : List O} {r pos n : Nat} {T S : ByteArray} {ok : Bool} (hr : h[r]? = some (.cells [.string T, .int .i64 pos, .bool ok] 223 (some 0))) (hT : T.size ≤ 200000) (hp : pos < T.size) (hn : n < 10)
  (hd : strIdxV (.string T) (.int .i64 pos) = some (.int .u8 ((48 + n : Nat) : Int))) (he : pos + 1 < T.size → ∃ c : Int, strIdxV (.string T) (.int .i64 ((pos : Int) + 1)) = some (.int .u8 c) ∧ (c < 48 ∨ 57 < c))
  (hS : ByteArray.empty.push (UInt8.ofNat (48 + (n : Int)).toNat) = S) (hx : S.toList == (T.extract pos (pos + 1)).toList) :
  DR E 183 [.pointer (some ⟨r, 0, none⟩)] ⟨h, h.length⟩ (.ret (.int .i64 n)) ⟨h.set r (.cells [.string T, .int .i64 ((pos : Int) + 1), .bool ok] 223 (some 0)), r⟩ := by
 refine hE.fn (body := rb183) rfl ?_
 unfold rb183
 have lr := (List.getElem?_eq_some_iff.1 hr).1
 have hw00 : IntKind.i64.wrap 0 = 0 := rfl
 have hw1 : IntKind.i64.wrap ((pos : Int) + 1) = (pos : Int) + 1 := by rw [w64_id] <;> omega
 have hw2 : IntKind.i64.wrap (48 + (n : Int)) = 48 + (n : Int) := by rw [w64_id] <;> omega
 have hw3 : IntKind.i64.wrap (48 + (n : Int) - 48) = (n : Int) := by rw [w64_id] <;> omega
 have hw5 : IntKind.i64.wrap ((pos : Int) + 1 - pos) = 1 := by rw [w64_id] <;> omega
 push_cast at hd
 have c1 : (48 : Int) ≤ 48 + n := by omega
 have c2 : 48 + (n : Int) ≤ 57 := by omega
 obtain ⟨h1, hh1⟩ : ∃ h1, h1 = h.set r (.cells [.string T, .int .i64 ((pos : Int) + 1), .bool ok] 223 (some 0)) := ⟨_, rfl⟩
 have hr1 : h1[r]? = some (.cells [.string T, .int .i64 ((pos : Int) + 1), .bool ok] 223 (some 0)) := by rw [hh1]; exact set_self hr
 have hmr : min h.length r = r := by omega
 rw [← hh1]
 simp [rd_def, hr]
 refine DW_loop (fun kk fr st => get fr 0 = .pointer (some ⟨r, 0, none⟩) ∧ get fr 3 = .int .i64 pos ∧ ((kk = 1 ∧ st = ⟨h, h.length⟩ ∧ get fr 4 = .int .i64 0) ∨ (kk = 0 ∧ st = ⟨h1, r⟩ ∧ get fr 4 = .int .i64 n))) ?_ (k := 1) ?_
 ·rintro kk fr st ⟨g0, g3, ⟨rfl, rfl, g4⟩ | ⟨rfl, rfl, g4⟩⟩
  ·simp [g0, g3, g4, rd_def, hr, hp, hd, hw00, hw1, hw2, hw3, c1, c2, wrN_def, ← hh1, hmr]
  ·have hdec := decimal_ hE (h := h1) hn hS
   have l1 : h1.length = h.length := by rw [hh1]; simp
   have hsl := strSl_at (T := T) (a := pos) (b := pos + 1) (by omega) (by omega)
   push_cast at hsl
   have hn1000 : ¬ (1000 < (n : Int)) := by omega
   have hne : ¬ ((pos : Int) + 1 = pos) := by omega
   have hjo : joined ⟨h1, r⟩ ⟨h1, h1.length⟩ = ⟨h1, r⟩ := joined_fl (Nat.le_refl _)
   have hsc : (Out.ret (Value.int .i64 (n : Int))).scalar = true := rfl
   have hnr : ¬ h.length ≤ r := by omega
   by_cases hl : pos + 1 < T.size
   ·obtain ⟨c, e1, e2⟩ := he hl
    have hl' : (pos : Int) + 1 < (T.size : Int) := by omega
    by_cases e3 : 48 ≤ c
    ·have e4 : ¬ (c ≤ 57) := by omega
     simp [g0, g3, g4, rd_def, hr1, hl', e1, e3, e4, hw5, DC_of hdec, hsl, hx, hn1000, hne, hjo, endK_ret, back, hsc, hnr, bit]
    ·simp [g0, g3, g4, rd_def, hr1, hl', e1, e3, hw5, DC_of hdec, hsl, hx, hn1000, hne, hjo, endK_ret, back, hsc, hnr, bit]
   ·have hl' : ¬ ((pos : Int) + 1 < (T.size : Int)) := by omega
    simp [g0, g3, g4, rd_def, hr1, hl', hw5, DC_of hdec, hsl, hx, hn1000, hne, hjo, endK_ret, back, hsc, hnr, bit]
 ·simp
omit hE in
def numB (T : ByteArray) (pos n : Nat) : Bool :=
 decide (pos < T.size) && decide (n < 10) && (match strIdxV (.string T) (.int .i64 pos) with | some (.int .u8 c) => c == 48 + n | _ => false) &&
 (!decide (pos + 1 < T.size) || match strIdxV (.string T) (.int .i64 ((pos : Int) + 1)) with | some (.int .u8 c) => decide (c < 48 ∨ 57 < c) | _ => false) &&
 ((ByteArray.empty.push (UInt8.ofNat (48 + (n : Int)).toNat)).toList == (T.extract pos (pos + 1)).toList)
theorem numberB_ {h : List O} {r pos n : Nat} {T : ByteArray} {ok : Bool} (hr : h[r]? = some (.cells [.string T, .int .i64 pos, .bool ok] 223 (some 0))) (hT : T.size ≤ 200000) (hb : numB T pos n = true) :
  DR E 183 [.pointer (some ⟨r, 0, none⟩)] ⟨h, h.length⟩ (.ret (.int .i64 n)) ⟨h.set r (.cells [.string T, .int .i64 ((pos : Int) + 1), .bool ok] 223 (some 0)), r⟩ := by
 unfold numB at hb
 simp only [Bool.and_eq_true, decide_eq_true_eq, Bool.or_eq_true, Bool.not_eq_true', decide_eq_false_iff_not] at hb
 obtain ⟨⟨⟨⟨h1, h2⟩, h3⟩, h4⟩, h5⟩ := hb
 refine number_ hE hr hT h1 h2 ?_ (fun hl => ?_) rfl h5
 ·split at h3
  ·rename_i c hc
   rw [hc, beq_iff_eq.1 h3]
   push_cast
   rfl
  ·cases h3
 ·rcases h4 with h4 | h4
  ·exact absurd hl h4
  ·split at h4
   ·rename_i c hc
    exact ⟨c, hc, by simpa using h4⟩
   ·cases h4
theorem takeT_ {h : List O} {r pos : Nat} {T s : ByteArray} {ok : Bool} (hr : h[r]? = some (.cells [.string T, .int .i64 pos, .bool ok] 223 (some 0))) (hT : T.size ≤ 200000) (hs : s.size ≤ 100) (hp : pos ≤ T.size) (hb : tkB T s pos = true) :
  DR E 182 [.pointer (some ⟨r, 0, none⟩), .string s] ⟨h, h.length⟩ (.ret (.bool true)) ⟨h.set r (.cells [.string T, .int .i64 ((pos + s.size : Nat) : Int), .bool ok] 223 (some 0)), r⟩ := by
 have := take_ hE hr hT hs hp
 rw [hb, if_pos rfl] at this
 exact this
theorem takeF_ {h : List O} {r pos : Nat} {T s : ByteArray} {ok : Bool} (hr : h[r]? = some (.cells [.string T, .int .i64 pos, .bool ok] 223 (some 0))) (hT : T.size ≤ 200000) (hs : s.size ≤ 100) (hp : pos ≤ T.size) (hb : tkB T s pos = false) :
  DR E 182 [.pointer (some ⟨r, 0, none⟩), .string s] ⟨h, h.length⟩ (.ret (.bool false)) ⟨h, h.length⟩ := by
 have := take_ hE hr hT hs hp
 rw [hb, if_neg (by simp)] at this
 exact this
end Go.Proofs.Ytjlkndkedknocaa
namespace Go.Proofs.Ytjlkndkedknocaa
open Go Go.Ai
def textB : ByteArray := ByteArray.mk (List.toArray (43 :: 32 :: 51 :: 32 :: 49 :: 32 :: 52 :: 32 :: 48 :: 59 :: 32 :: 43 :: 32 :: 53 :: 32 :: 51 :: 32 :: 48 :: 32 :: 50 :: 59 :: 32 :: 43 :: 32 :: 49 :: 32 :: 53 :: 32 :: 50 :: 32 :: 52 :: 32 :: 124 :: 32 :: 48 :: []))
def rowT : List (List Int) := [[3, 1, 4, 0], [5, 3, 0, 2], [1, 5, 2, 4]]
def xT : Nat → Nat → Int := fun i j => nth (nthR rowT i) j
def sT : Nat → Int := fun _ => 1
set_option maxRecDepth 100000
theorem textB_size : textB.size = 35 := by kernel_rfl
theorem tk_plus : (List.range 3).all (fun i => tkB textB (ByteArray.mk (List.toArray [43])) (11 * i)) = true := by kernel_rfl
theorem tk_blank : (List.range 3).all (fun i => (List.range 4).all fun q => tkB textB (ByteArray.mk (List.toArray [32])) (11 * i + 1 + 2 * q)) = true := by kernel_rfl
theorem tk_num : (List.range 3).all (fun i => (List.range 4).all fun q => numB textB (11 * i + 2 + 2 * q) (xT i q).toNat) = true := by kernel_rfl
theorem tk_semi : (List.range 2).all (fun i => tkB textB (ByteArray.mk (List.toArray [59, 32])) (11 * i + 9)) = true := by kernel_rfl
theorem tk_semi2 : tkB textB (ByteArray.mk (List.toArray [59, 32])) 31 = false := by kernel_rfl
theorem tk_bar : tkB textB (ByteArray.mk (List.toArray [32, 124, 32])) 31 = true := by kernel_rfl
theorem tk_end : numB textB 34 0 = true := by kernel_rfl
def cellQ (i q : Nat) : List Value := [.int .i64 (if 0 < q then xT i 0 else 0), .int .i64 (if 1 < q then xT i 1 else 0), .int .i64 (if 2 < q then xT i 2 else 0), .int .i64 (if 3 < q then xT i 3 else 0), .int .i64 1]
theorem cellQ_set {i q : Nat} (h : q < 4) : (cellQ i q).set q (.int .i64 (xT i q)) = cellQ i (q + 1) := by
 match q, h with
 | 0, _ => rfl
 | 1, _ => rfl
 | 2, _ => rfl
 | 3, _ => rfl
def cellT : Nat → List Value
 | 0 => []
 | i + 1 => cellT i ++ cellQ i 4
attribute [local instance] Classical.propDecidable
def ParP (h0 : List O) (o : Out) (st' : St) : Prop := ∃ a c, o = .ret (.tuple #[dV a 3 c 0, .int .i64 0]) ∧ Sub h0 st'.h ∧ h0.length ≤ st'.fl ∧ CrossP st'.h a 3 xT sT
def rdrC (pos : Int) (ok : Bool) : List Value := [.string textB, .int .i64 pos, .bool ok]
variable {E : Env} (hE : OE E)
include hE
theorem tk_ {h : List O} {R pos m : Nat} {s : ByteArray} (hr : h[R]? = some (.cells (rdrC pos true) 223 (some 0))) (hs : s.size = m) (hm : m ≤ 100) (hp : pos ≤ 35) (hb : tkB textB s pos = true) :
  DR E 182 [.pointer (some ⟨R, 0, none⟩), .string s] ⟨h, h.length⟩ (.ret (.bool true)) ⟨h.set R (.cells (rdrC ((pos + m : Nat) : Int) true) 223 (some 0)), R⟩ := by
 have hz := textB_size
 subst hs
 exact takeT_ hE hr (by omega) hm (by omega) hb
theorem tkF_ {h : List O} {R pos : Nat} {s : ByteArray} (hr : h[R]? = some (.cells (rdrC pos true) 223 (some 0))) (hm : s.size ≤ 100) (hp : pos ≤ 35) (hb : tkB textB s pos = false) :
  DR E 182 [.pointer (some ⟨R, 0, none⟩), .string s] ⟨h, h.length⟩ (.ret (.bool false)) ⟨h, h.length⟩ := by
 have hz := textB_size
 exact takeF_ hE hr (by omega) hm (by omega) hb
theorem parse_ (hk : kindD 3 xT sT 0 = 0) {h0 : List O} : DC E 129 [.string textB] ⟨h0, h0.length⟩ (ParP h0) := by
 refine hE.fnC (body := rb129) rfl ?_
 unfold rb129
 have hz := textB_size
 have hone : one1 (.string textB) = true := rfl
 have hcs : (Value.string textB).cells = #[.string textB] := rfl
 simp [hz, hcs, hone, wrN_at0, wrN_at, set_at0, set_at, List.append_assoc]
 refine DW_loop (fun kk fr st => ∃ (i : Nat) (h : List O) (v : Value), i + kk = 2 ∧ st = ⟨h, h0.length⟩ ∧ Sub h0 h ∧ AtB h h0.length (.cells [.slice none 0 0, .int .i64 0] 24 (some 0)) ∧ AtB h (h0.length + 1) (.cells (rdrC ((11 * i : Nat) : Int) true) 223 (some 0)) ∧ AtB h (h0.length + 2) (.cells [v, .int .i64 0] 24 (some 0)) ∧ OwnS h (h0.length + 3) v i (cellT i) 107 5 ∧ h0.length + 3 ≤ h.length ∧
  get fr 0 = .string textB ∧ get fr 2 = .pointer (some ⟨h0.length, 0, none⟩) ∧ get fr 4 = .pointer (some ⟨h0.length + 1, 0, none⟩) ∧ get fr 5 = .pointer (some ⟨h0.length + 2, 0, none⟩)) ?_ (k := 2) ?_
 ·rintro kk fr st ⟨i, h, v, hik, rfl, hsub, a0, a1, a2, hu, hl, g0, g2, g4, g5⟩
  obtain ⟨L, hL⟩ : ∃ L, L = h0.length := ⟨_, rfl⟩
  obtain ⟨R, hR⟩ : ∃ R, R = h0.length + 1 := ⟨_, rfl⟩
  obtain ⟨D, hD⟩ : ∃ D, D = h0.length + 2 := ⟨_, rfl⟩
  rw [← hL] at a0 g2
  rw [← hR] at a1 g4
  rw [← hD] at a2 g5
  unfold AtB at a0 a1 a2
  have a1' := a1
  simp only [rdrC] at a1'
  simp [g0, g2, g4, g5, rd_def, ↓a1', wrN_at0, set_at0]
  have hi3 : i < 3 := by omega
  have lR := (List.getElem?_eq_some_iff.1 a1).1
  have lD := (List.getElem?_eq_some_iff.1 a2).1
  obtain ⟨C, hC⟩ : ∃ C, C = h.length := ⟨_, rfl⟩
  obtain ⟨Hc, hHc⟩ : ∃ H, H = h ++ [O.cells [.int .i64 0, .int .i64 0, .int .i64 0, .int .i64 0, .int .i64 0] 107 (some 0)] := ⟨_, rfl⟩
  have lc : Hc.length = h.length + 1 := by rw [hHc]; simp
  have b1 : Hc[R]? = some (.cells (rdrC ((11 * i : Nat) : Int) true) 223 (some 0)) := by rw [hHc]; exact app_of a1 _
  have b2 : Hc[D]? = some (.cells [v, .int .i64 0] 24 (some 0)) := by rw [hHc]; exact app_of a2 _
  have b3 : Hc[C]? = some (O.cells [.int .i64 0, .int .i64 0, .int .i64 0, .int .i64 0, .int .i64 0] 107 (some 0)) := by rw [hHc, hC, app_at0]; rfl
  have t1 := tk_ hE (s := ⟨#[43]⟩) (m := 1) b1 rfl (by omega) (by omega) (List.all_eq_true.1 tk_plus i (List.mem_range.2 hi3))
  rw [← hHc, ← hC, show C + 1 = Hc.length by omega]
  refine (DC_of t1).2 ?_
  obtain ⟨H1, hH1⟩ : ∃ H, H = Hc.set R (.cells (rdrC ((11 * i + 1 : Nat) : Int) true) 223 (some 0)) := ⟨_, rfl⟩
  have c3 : H1[C]? = some (O.cells [.int .i64 0, .int .i64 0, .int .i64 0, .int .i64 0, .int .i64 0] 107 (some 0)) := by rw [hH1]; exact set_ne b3 (by omega)
  obtain ⟨H2, hH2⟩ : ∃ H, H = H1.set C (.cells (cellQ i 0) 107 (some 0)) := ⟨_, rfl⟩
  have hH2' : H2 = H1.set C (.cells [.int .i64 0, .int .i64 0, .int .i64 0, .int .i64 0, .int .i64 1] 107 (some 0)) := hH2
  have hj1 : joined ⟨Hc, h0.length⟩ ⟨H1, R⟩ = ⟨H1, h0.length⟩ := by
   simp only [joined]
   rw [if_pos (by omega)]
   congr 1
   omega
  have hmC : min h0.length C = h0.length := by omega
  rw [← hH1]
  simp [hj1, wrN_def, c3, ← hH2', hmC]
  have d1 : H2[R]? = some (.cells (rdrC ((11 * i + 1 : Nat) : Int) true) 223 (some 0)) := by rw [hH2, hH1]; exact set_ne (set_self b1) (by omega)
  have d2 : H2[C]? = some (.cells (cellQ i 0) 107 (some 0)) := by rw [hH2]; exact set_self c3
  have l2 : H2.length = h.length + 1 := by rw [hH2, hH1]; simp [lc]
  have K2 : ∀ (b : Nat) (o : O), h[b]? = some o → b ≠ R → H2[b]? = some o := fun b o hb hn => by
   have := (List.getElem?_eq_some_iff.1 hb).1
   rw [hH2, hH1, hHc]
   exact set_ne (set_ne (app_of hb _) hn) (by omega)
  refine DW_loop (fun kk' fr st => ∃ (q : Nat) (h' : List O), q + kk' = 4 ∧ st = ⟨h', h0.length⟩ ∧ h'.length = H2.length ∧ AtB h' R (.cells (rdrC ((11 * i + 1 + 2 * q : Nat) : Int) true) 223 (some 0)) ∧ AtB h' C (.cells (cellQ i q) 107 (some 0)) ∧ (∀ (b : Nat) (o : O), h[b]? = some o → b ≠ R → h'[b]? = some o) ∧
   get fr 0 = .string textB ∧ get fr 2 = .pointer (some ⟨L, 0, none⟩) ∧ get fr 4 = .pointer (some ⟨R, 0, none⟩) ∧ get fr 5 = .pointer (some ⟨D, 0, none⟩) ∧ get fr 6 = .pointer (some ⟨C, 0, none⟩) ∧ get fr 7 = .int .i64 q) ?_ (k := 4) ?_
  ·clear g0 g2 g4 g5
   rintro kk' fr st ⟨q, h', hqk, rfl, hl', e1, e2, hk', g0, g2, g4, g5, g6, g7⟩
   unfold AtB at e1 e2
   by_cases hq : q < 4
   ·have hw : IntKind.i64.wrap ((q : Int) + 1) = (q : Int) + 1 := by rw [w64_id] <;> omega
    have hq' : (q : Int) < 4 := by omega
    have tb := List.all_eq_true.1 (List.all_eq_true.1 tk_blank i (List.mem_range.2 hi3)) q (List.mem_range.2 hq)
    have tn := List.all_eq_true.1 (List.all_eq_true.1 tk_num i (List.mem_range.2 hi3)) q (List.mem_range.2 hq)
    obtain ⟨p, hp⟩ : ∃ p, p = 11 * i + 1 + 2 * q := ⟨_, rfl⟩
    obtain ⟨p1, hp1⟩ : ∃ p1, p1 = p + 1 := ⟨_, rfl⟩
    obtain ⟨p2, hp2⟩ : ∃ p2, p2 = p + 2 := ⟨_, rfl⟩
    rw [← hp] at e1 tb
    rw [show 11 * i + 2 + 2 * q = p1 by omega] at tn
    have t2 := tk_ hE (s := ⟨#[32]⟩) (m := 1) e1 rfl (by omega) (by omega) tb
    rw [← hp1] at t2
    have e1' := e1
    simp only [rdrC] at e1'
    obtain ⟨h5, hh5⟩ : ∃ H, H = h'.set R (.cells (rdrC (p1 : Int) true) 223 (some 0)) := ⟨_, rfl⟩
    rw [← hh5] at t2
    have l5 : h5.length = h'.length := by rw [hh5]; simp
    have f1 : h5[R]? = some (.cells (rdrC (p1 : Int) true) 223 (some 0)) := by rw [hh5]; exact set_self e1
    have f2 : h5[C]? = some (.cells (cellQ i q) 107 (some 0)) := by rw [hh5]; exact set_ne e2 (by omega)
    have f1' := f1
    simp only [rdrC] at f1'
    have hs5 : h5.set R (.cells (rdrC (p1 : Int) true) 223 (some 0)) = h5 := by
     apply List.ext_getElem?
     intro b
     by_cases hb : b = R
     ·subst hb; rw [f1]; exact set_self f1
     ·rw [List.getElem?_set_ne (fun e => hb e.symm)]
    simp only [rdrC] at hs5
    have t3 := numberB_ hE (h := h5) f1 (by rw [hz]; omega) tn
    obtain ⟨h6, hh6⟩ : ∃ H, H = h5.set R (.cells (rdrC (p2 : Int) true) 223 (some 0)) := ⟨_, rfl⟩
    have t3' : DR E 183 [.pointer (some ⟨R, 0, none⟩)] ⟨h5, h5.length⟩ (.ret (.int .i64 ((xT i q).toNat : Int))) ⟨h6, R⟩ := by
     rw [hh6, show ((p2 : Nat) : Int) = (p1 : Int) + 1 by omega]
     exact t3
    have f5 : h6[R]? = some (.cells (rdrC (p2 : Int) true) 223 (some 0)) := by rw [hh6]; exact set_self f1
    have f6 : h6[C]? = some (.cells (cellQ i q) 107 (some 0)) := by rw [hh6]; exact set_ne f2 (by omega)
    have l6 : h6.length = h'.length := by rw [hh6, List.length_set, l5]
    have K6 : ∀ (b : Nat) (o : O), h[b]? = some o → b ≠ R → h6[b]? = some o := fun b o hb hn => by rw [hh6, hh5]; exact set_ne (set_ne (hk' b o hb hn) hn) hn
    have hxq : ((xT i q).toNat : Int) = xT i q := by
     match i, hi3, q, hq with
     | 0, _, 0, _ => rfl
     | 0, _, 1, _ => rfl
     | 0, _, 2, _ => rfl
     | 0, _, 3, _ => rfl
     | 1, _, 0, _ => rfl
     | 1, _, 1, _ => rfl
     | 1, _, 2, _ => rfl
     | 1, _, 3, _ => rfl
     | 2, _, 0, _ => rfl
     | 2, _, 1, _ => rfl
     | 2, _, 2, _ => rfl
     | 2, _, 3, _ => rfl
    rw [hxq] at t3'
    have hj2 : ∀ x y : List O, R < x.length → joined ⟨x, h0.length⟩ ⟨y, R⟩ = ⟨y, h0.length⟩ := fun x y hx => by
     simp only [joined]
     rw [if_pos hx]
     congr 1
     omega
    have hj5 := hj2 h' h5 (by omega)
    have hj6 := hj2 h5 h6 (by omega)
    have hcl : (cellQ i q).length = 5 := rfl
    have hmR : min h0.length R = h0.length := by omega
    have hmC : min h0.length C = h0.length := by omega
    have hq5 : q + 1 ≤ 5 := by omega
    simp [g0, g2, g4, g5, g6, g7, hq', rd_def, ↓e1', DC_of t2, hj5, hmR, ↓f1', wrN_def, hs5, DC_of t3', hj6, f6, hcl, hq5, hw, hmC, cellQ_set hq]
    have hpc : ((p2 : Nat) : Int) = 11 * (i : Int) + 1 + 2 * ((q + 1 : Nat) : Int) := by omega
    rw [hpc] at f5
    exact ⟨kk' - 1, by omega, q + 1, by omega, by omega, set_ne f5 (by omega), set_self f6, fun b o hb hn => set_ne (K6 b o hb hn) (by have := (List.getElem?_eq_some_iff.1 hb).1; omega), by omega⟩
   ·obtain rfl : q = 4 := by omega
    have hc4 : cellQ i 4 = [.int .i64 (xT i 0), .int .i64 (xT i 1), .int .i64 (xT i 2), .int .i64 (xT i 3), .int .i64 1] := rfl
    obtain ⟨p, hp⟩ : ∃ p, p = 11 * i + 9 := ⟨_, rfl⟩
    rw [show 11 * i + 1 + 2 * 4 = p by omega] at e1
    have a2' := hk' _ _ a2 (by omega)
    have e2' := e2
    rw [hc4] at e2'
    have hu' : OwnS h' (h0.length + 3) v i (cellT i) 107 5 := hu.keep fun b s z1 z2 => by
     rcases hu.2 with ⟨w1, _⟩ | ⟨b2, s2, w1, w2, w3, _⟩
     ·rw [w1] at z1; cases z1
     ·rw [w1] at z1
      simp only [Value.slice.injEq, Option.some.injEq, Addr.mk.injEq] at z1
      exact hk' b _ z2 (by omega)
    obtain ⟨h7, hh7⟩ : ∃ H, H = h' ++ [O.cells [.int .i64 (xT i 0), .int .i64 (xT i 1), .int .i64 (xT i 2), .int .i64 (xT i 3), .int .i64 1] 107 (some 0)] := ⟨_, rfl⟩
    have hread : readSlice h7 5 1 (some ⟨h'.length, 0, none⟩) = some (cellQ i 4) := by rw [hh7, hc4]; simp [readSlice, rdN_at0]
    obtain ⟨b', h8, f8, happ, hb', hown, hf1, hf2, hL8, K8⟩ := append_S (fl := h0.length) (c := 1) (bytes := 40) (hu'.ext (by rw [hh7]; exact Ext.snoc _ _)) hread rfl rfl (by rw [hh7]; simp; omega) (by simp only [roomMax]; omega) (by omega)
    have hone7 : [Value.int .i64 (xT i 0), .int .i64 (xT i 1), .int .i64 (xT i 2), .int .i64 (xT i 3), .int .i64 1].all one1 = true := rfl
    have hvne : ∀ b, b < h0.length + 3 → ∀ n c, v ≠ .slice (some ⟨b, 0, none⟩) n c := fun b hb n c e => by
     rcases hu.2 with ⟨w1, _⟩ | ⟨b2, s2, w1, w2, _⟩
     ·rw [w1] at e; cases e
     ·rw [w1] at e
      simp only [Value.slice.injEq, Option.some.injEq, Addr.mk.injEq] at e
      omega
    have k8 : ∀ (b : Nat) (o : O), b < h0.length + 3 → h'[b]? = some o → h8[b]? = some o := fun b o hb ho => K8 b o (by rw [hh7]; exact app_of ho _) (hvne b hb)
    have m2 := k8 D _ (by omega) a2'
    have m1 := k8 R _ (by omega) e1
    obtain rfl : f8 = h0.length := by omega
    obtain ⟨v', hv'⟩ : ∃ v', v' = Value.slice (some ⟨b', 0, none⟩) (i + 1) (i + 1) := ⟨_, rfl⟩
    rw [← hv'] at happ hown
    obtain ⟨h9, hh9⟩ : ∃ H, H = h8.set D (.cells [v', .int .i64 0] 24 (some 0)) := ⟨_, rfl⟩
    have l7 : h7.length = h'.length + 1 := by rw [hh7]; simp
    have l9 : h9.length = h8.length := by rw [hh9]; simp
    have n1 : h9[R]? = some (.cells (rdrC (p : Int) true) 223 (some 0)) := by rw [hh9]; exact set_ne m1 (by omega)
    have n2 : h9[D]? = some (.cells [v', .int .i64 0] 24 (some 0)) := by rw [hh9]; exact set_self m2
    have hone' : one1 v' = true := by rw [hv']; rfl
    have hcs' : v'.cells = #[v'] := by rw [hv']; rfl
    have hmD : min h0.length D = h0.length := by omega
    have hmR : min h0.length R = h0.length := by omega
    have hj2 : ∀ x y : List O, R < x.length → joined ⟨x, h0.length⟩ ⟨y, R⟩ = ⟨y, h0.length⟩ := fun x y hx => by
     simp only [joined]
     rw [if_pos hx]
     congr 1
    have k9 : ∀ (b : Nat) (o : O), h[b]? = some o → b < h0.length + 3 → b ≠ R → b ≠ D → h9[b]? = some o := fun b o ho hb hn hn2 => by rw [hh9]; exact set_ne (k8 b o hb (hk' b o ho hn)) hn2
    have own9 : ∀ y, y < h0.length + 3 → ∀ o', OwnS (h9.set y o') (h0.length + 3) v' (i + 1) (cellT (i + 1)) 107 5 := fun y hy o' => hown.keep fun b s z1 z2 => by
     rw [hv'] at z1
     simp only [Value.slice.injEq, Option.some.injEq, Addr.mk.injEq] at z1
     rw [hh9]
     exact set_ne (set_ne z2 (by omega)) (by omega)
    by_cases hi2 : i < 2
    ·have t4 := tk_ hE (s := ⟨#[59, 32]⟩) (m := 2) n1 rfl (by omega) (by omega) (by rw [hp]; exact List.all_eq_true.1 tk_semi i (List.mem_range.2 hi2))
     obtain ⟨p2, hp2⟩ : ∃ p2, p2 = p + 2 := ⟨_, rfl⟩
     rw [← hp2] at t4
     obtain ⟨h10, hh10⟩ : ∃ H, H = h9.set R (.cells (rdrC (p2 : Int) true) 223 (some 0)) := ⟨_, rfl⟩
     rw [← hh10] at t4
     have hj10 := hj2 h9 h10 (by omega)
     simp [g0, g2, g4, g5, g6, g7, rd_def, ↓a2', rdN_def, ↓e2', ← hh7, happ, wrN_def, m2, hone', hcs', ← hh9, hmD, DC_of t4, hj10]
     have hpc : ((p2 : Nat) : Int) = 11 * ((i + 1 : Nat) : Int) := by omega
     refine ⟨kk - 1, by omega, i + 1, by omega, ?_, ?_, ?_, v', ?_, ?_, ?_⟩
     ·intro b o hb
      have := (List.getElem?_eq_some_iff.1 hb).1
      rw [hh10]
      exact set_ne (k9 b o (hsub b o hb) (by omega) (by omega) (by omega)) (by omega)
     ·rw [hh10, ← hL]
      exact set_ne (k9 _ _ a0 (by omega) (by omega) (by omega)) (by omega)
     ·rw [hh10, ← hR, ← hpc]
      exact set_self n1
     ·rw [hh10, ← hD]
      exact set_ne n2 (by omega)
     ·rw [hh10]
      exact own9 _ (by omega) _
     ·rw [hh10, List.length_set]
      omega
    ·obtain rfl : i = 2 := by omega
     have t4 := tkF_ hE (s := ⟨#[59, 32]⟩) n1 (by decide) (by omega) (by rw [hp]; exact tk_semi2)
     have t5 := tk_ hE (s := ⟨#[32, 124, 32]⟩) (m := 3) n1 rfl (by omega) (by omega) (by rw [hp]; exact tk_bar)
     obtain ⟨p2, hp2⟩ : ∃ p2, p2 = p + 3 := ⟨_, rfl⟩
     rw [← hp2] at t5
     obtain ⟨h10, hh10⟩ : ∃ H, H = h9.set R (.cells (rdrC (p2 : Int) true) 223 (some 0)) := ⟨_, rfl⟩
     rw [← hh10] at t5
     have hj9 : joined ⟨h9, h0.length⟩ ⟨h9, h9.length⟩ = ⟨h9, h0.length⟩ := joined_mk _ _
     have hj10 := hj2 h9 h10 (by omega)
     have n1' := n1
     simp only [rdrC] at n1'
     have r1 : h10[R]? = some (.cells (rdrC (p2 : Int) true) 223 (some 0)) := by rw [hh10]; exact set_self n1
     have r1' := r1
     simp only [rdrC] at r1'
     have hs10 : h10.set R (.cells (rdrC (p2 : Int) true) 223 (some 0)) = h10 := by
      apply List.ext_getElem?
      intro b
      by_cases hb : b = R
      ·subst hb; rw [r1]; exact set_self r1
      ·rw [List.getElem?_set_ne (fun e => hb e.symm)]
     simp only [rdrC] at hs10
     have t6 := numberB_ hE (h := h10) r1 (by rw [hz]; omega) (show numB textB p2 0 = true by rw [hp2, hp]; exact tk_end)
     obtain ⟨h11, hh11⟩ : ∃ H, H = h10.set R (.cells (rdrC ((35 : Nat) : Int) true) 223 (some 0)) := ⟨_, rfl⟩
     have t6' : DR E 183 [.pointer (some ⟨R, 0, none⟩)] ⟨h10, h10.length⟩ (.ret (.int .i64 0)) ⟨h11, R⟩ := by
      rw [hh11, show ((35 : Nat) : Int) = (p2 : Int) + 1 by omega]
      exact t6
     have l10 : h10.length = h9.length := by rw [hh10]; simp
     have hj11 := hj2 h10 h11 (by omega)
     have u1 : h11[R]? = some (.cells [.string textB, .int .i64 35, .bool true] 223 (some 0)) := by rw [hh11]; exact set_self r1
     have u2 : h11[D]? = some (.cells [v', .int .i64 0] 24 (some 0)) := by rw [hh11, hh10]; exact set_ne (set_ne n2 (by omega)) (by omega)
     have hsD : h11.set D (.cells [v', .int .i64 0] 24 (some 0)) = h11 := by
      apply List.ext_getElem?
      intro b
      by_cases hb : b = D
      ·subst hb; rw [u2]; exact set_self u2
      ·rw [List.getElem?_set_ne (fun e => hb e.symm)]
     have u0 : h11[L]? = some (.cells [.slice none 0 0, .int .i64 0] 24 (some 0)) := by rw [hh11, hh10]; exact set_ne (set_ne (k9 _ _ a0 (by omega) (by omega) (by omega)) (by omega)) (by omega)
     have l11 : h11.length = h9.length := by rw [hh11, List.length_set, l10]
     obtain ⟨s8, own8⟩ : ∃ s, h8[b']? = some (.cells (cellT 3) 107 (some s)) := by
      rcases hown.2 with ⟨w1, _⟩ | ⟨b2, s2, w1, w2, w3, _⟩
      ·rw [hv'] at w1; cases w1
      ·rw [hv'] at w1
       simp only [Value.slice.injEq, Option.some.injEq, Addr.mk.injEq] at w1
       obtain ⟨⟨rfl, _⟩, _⟩ := w1
       exact ⟨s2, w3⟩
     have own11 : h11[b']? = some (.cells (cellT 3) 107 (some s8)) := by
      rw [hh11, hh10, hh9]
      exact set_ne (set_ne (set_ne own8 (by omega)) (by omega)) (by omega)
     have hx11 : CrossP h11 (some ⟨b', 0, none⟩) 3 xT sT := ⟨b', 0, fun _ => rfl, fun j hj => by
      rw [rdN_def, own11]
      match j, hj with
      | 0, _ => rfl
      | 1, _ => rfl
      | 2, _ => rfl⟩
     have hck := checkR_ hE (c := 3) (L := 0) hx11
     rw [hk] at hck
     simp [dV] at hck
     subst hv'
     have hmL : min h0.length L = h0.length := by omega
     simp [g0, g2, g4, g5, g6, g7, rd_def, ↓a2', rdN_def, ↓e2', ← hh7, happ, wrN_def, m2, ← hh9, hmD, DC_of t4, hj9, ↓n1', DC_of t5, hj10, ↓r1', hs10, hmR, DC_of t6', hj11, ↓u1, ↓u2, hsD, hz, DC_of hck, ↓u0, hmL]
     have hself : (h11.set L (O.cells [.slice (some ⟨b', 0, none⟩) 3 3, .int .i64 0] 24 (some 0)))[L]? = some (O.cells [.slice (some ⟨b', 0, none⟩) 3 3, .int .i64 0] 24 (some 0)) := set_self u0
     simp [↓hself]
     have hP : ParP h0 (.ret (.tuple #[dV (some ⟨b', 0, none⟩) 3 3 0, .int .i64 0])) ⟨h11.set L (O.cells [.slice (some ⟨b', 0, none⟩) 3 3, .int .i64 0] 24 (some 0)), h0.length⟩ := by
      refine ⟨_, _, rfl, fun b o hb => ?_, Nat.le_refl _, b', 0, fun _ => rfl, fun j hj => ?_⟩
      ·have := (List.getElem?_eq_some_iff.1 hb).1
       rw [hh11, hh10]
       exact set_ne (set_ne (set_ne (k9 b o (hsub b o hb) (by omega) (by omega) (by omega)) (by omega)) (by omega)) (by omega)
      ·rw [rdN_def, set_ne own11 (by omega)]
       match j, hj with
       | 0, _ => rfl
       | 1, _ => rfl
       | 2, _ => rfl
     unfold pairQ back
     rw [if_neg (by simp [Out.scalar, scalar, flat1, flat])]
     exact hP
  ·exact ⟨0, H2, by omega, rfl, rfl, d1, d2, K2, by simp [g0, g2, g4, g5]⟩
 ·refine ⟨0, _, .slice none 0 0, rfl, rfl, (Sub.refl h0).app _, ?_, ?_, ?_, OwnS.nil _ _ _ _, by simp, by simp⟩
  ·unfold AtB; rw [app_at0]; rfl
  ·unfold AtB; rw [app_at]; rfl
  ·unfold AtB; rw [app_at]; rfl
end Go.Proofs.Ytjlkndkedknocaa
namespace Go.Proofs.Ytjlkndkedknocaa
open Go Go.Ai
theorem c57_0a : cmpT 43 (lcA 57 0) = some ra57_0 := by kernel_rfl
theorem c57_0b : cmpT 43 (lcB 57 0) = some rl57_0 := by kernel_rfl
theorem c70_0a : cmpT 98 (lcA 70 0) = some ra70_0 := by kernel_rfl
theorem c70_0b : cmpT 98 (lcB 70 0) = some rl70_0 := by kernel_rfl
theorem c219_0a : cmpT 46 (lcA 219 0) = some ra219_0 := by kernel_rfl
theorem c219_0b : cmpT 46 (lcB 219 0) = some rl219_0 := by kernel_rfl
theorem E0_cmp : E0.cmp = cmpT := by unfold E0; rfl
theorem E0_S (f : FuncId) : E0.S f = none := by unfold E0; rfl
theorem E0_OE : OE E0 := ⟨fun f rf h => h, fun f h _ => E0_S f, fun k => E0_S _, by rw [E0_cmp]; exact c57_0a, by rw [E0_cmp]; exact c57_0b, by rw [E0_cmp]; exact c70_0a, by rw [E0_cmp]; exact c70_0b, by rw [E0_cmp]; exact c219_0a, by rw [E0_cmp]; exact c219_0b⟩
theorem OE.sum148 {E : Env} (h : OE E) : OE (withK E 4 148) := ⟨h.F, fun f hf h148 => (if_neg h148).trans (h.S f hf h148), fun k => (if_neg (Nat.ne_of_gt (Nat.lt_of_lt_of_le (show 148 < yB by decide) (Nat.le_add_right _ _)))).trans (h.Y k), h.c57_0a, h.c57_0b, h.c70_0a, h.c70_0b, h.c219_0a, h.c219_0b⟩
end Go.Proofs.Ytjlkndkedknocaa
namespace Go.Proofs.Ytjlkndkedknocaa
open Go Go.Ai
def seenN : Option (Out × St) → Option Int
 | some (.ret (.int _ n), _) => some n
 | _ => none
theorem seenN_some {x : Option (Out × St)} {n : Int} (h : seenN x = some n) : ∃ k st, x = some (.ret (.int k n), st) := by
 unfold seenN at h
 split at h
 ·obtain rfl := Option.some.inj h; exact ⟨_, _, rfl⟩
 ·cases h
noncomputable def trefH : List O := [.cells (cellT 3) 107 (some 0)]
set_option maxRecDepth 100000 in
theorem tref_run : seenN (call E0 400 87 [dV (some ⟨0, 0, none⟩) 3 3 0] ⟨trefH, 1⟩) = some 0 := by kernel_rfl
theorem trefP : CrossP trefH (some ⟨0, 0, none⟩) 3 xT sT := ⟨0, 0, fun _ => rfl, fun i hi => by
 match i, hi with
 | 0, _ => rfl
 | 1, _ => rfl
 | 2, _ => rfl⟩
theorem kind_T : kindD 3 xT sT 0 = 0 := by
 obtain ⟨k, st, h⟩ := seenN_some tref_run
 have h1 := check_ E0_OE (c := 3) (L := 0) trefP
 have h3 := (DR.unique h1 ⟨400, h⟩).1
 simp only [Out.ret.injEq, Value.int.injEq] at h3
 exact h3.2
end Go.Proofs.Ytjlkndkedknocaa
namespace Go.Ai
attribute [local instance] Classical.propDecidable
theorem appendEN {el : TypeId} {size bytes b o n c fl : Nat} {H : List O} {l : List Value} (hr : rdN H b o (n * size) = some l) (hn : 0 < n) (hs : 0 < size) (hall : l.all one1 = true) (hroom : n * bytes ≤ roomMax) :
  appendV el size bytes emptyS (.slice (some ⟨b, o, none⟩) n c) ⟨H, fl⟩ = some (.slice (some ⟨H.length, 0, none⟩) n n, ⟨H ++ [.cells l el (some size)], fl⟩) := by
 have hns : ¬ n * size = 0 := by
  have := Nat.mul_pos hn hs; omega
 have hrd : readSlice H size n (some ⟨b, o, none⟩) = some l := by simp only [readSlice]; rw [if_neg hns]; exact hr
 simp only [appendV, emptyS, hrd, bind, Option.bind_some, appendCells]
 rw [if_neg (by omega), if_neg (by omega), if_pos ⟨by rw [Nat.zero_add]; exact hroom, hall⟩]
 simp [readSlice, kill]
theorem append_fit {el : TypeId} {bytes b k c xb fl : Nat} {H : List O} {cs : List Value} {e : TypeId} {s : Nat} {v : Value} (hb : H[b]? = some (.cells cs e (some s))) (hk : k + 1 ≤ c) (hc : k + 1 ≤ cs.length) (hv : one1 v = true) (hx : rdN H xb 0 1 = some [v]) :
  appendV el 1 bytes (.slice (some ⟨b, 0, none⟩) k c) (.slice (some ⟨xb, 0, none⟩) 1 1) ⟨H, fl⟩ = some (.slice (some ⟨b, 0, none⟩) (k + 1) c, ⟨H.set b (.cells (cs.set k v) e (some s)), min fl b⟩) := by
 have hrd : readSlice H 1 1 (some ⟨xb, 0, none⟩) = some [v] := by simp [readSlice, hx]
 simp only [appendV, hrd, bind, Option.bind_some, appendCells]
 rw [if_neg (by omega), if_pos (by omega)]
 simp [wrN, hb, hc, hv]
def visL (n : Nat) : Nat → List Int → List (List Int)
 | 0, f => [f]
 | m + 1, f => (List.range n).flatMap fun (x : Nat) => if (x : Int) ∈ f then [] else visL n m (f ++ [(x : Int)])
def visI (n m : Nat) (f : List Int) (i : Nat) : List (List Int) := (List.range i).flatMap fun (x : Nat) => if (x : Int) ∈ f then [] else visL n m (f ++ [(x : Int)])
theorem visI_succ (n m : Nat) (f : List Int) (i : Nat) : visI n m f (i + 1) = visI n m f i ++ (if (i : Int) ∈ f then [] else visL n m (f ++ [(i : Int)])) := by
 unfold visI
 rw [List.range_succ, List.flatMap_append]
 simp
theorem visL_le (n : Nat) : ∀ m f, (visL n m f).length ≤ n ^ m := by
 intro m
 induction m with
 | zero => intro f; simp [visL]
 | succ m ih =>
  intro f
  have key : ∀ i, ((List.range i).flatMap fun (x : Nat) => if (x : Int) ∈ f then [] else visL n m (f ++ [(x : Int)])).length ≤ i * n ^ m := by
   intro i
   induction i with
   | zero => simp
   | succ i ih2 =>
    rw [List.range_succ, List.flatMap_append, List.length_append, Nat.succ_mul]
    have h2 : ([i].flatMap fun x : Nat => if (x : Int) ∈ f then [] else visL n m (f ++ [(x : Int)])).length ≤ n ^ m := by
     simp only [List.flatMap_cons, List.flatMap_nil, List.append_nil]
     split
     ·simp
     ·exact ih _
    omega
  have := key n
  rw [Nat.pow_succ, Nat.mul_comm]
  exact this
theorem visI_le (n m : Nat) (f : List Int) (i : Nat) : (visI n m f i).length ≤ i * n ^ m := by
 induction i with
 | zero => simp [visI]
 | succ i ih =>
  rw [visI_succ, List.length_append, Nat.succ_mul]
  have h2 : (if (i : Int) ∈ f then [] else visL n m (f ++ [(i : Int)])).length ≤ n ^ m := by
   split
   ·simp
   ·exact visL_le _ _ _
  omega
theorem take_nth {buf f : List Int} {k : Nat} (h : buf.take k = f) (hk : f.length = k) {i : Nat} (hi : i < k) : nth buf i = nth f i := by
 rw [← h]
 unfold nth
 rw [List.getD_eq_getElem?_getD, List.getD_eq_getElem?_getD, List.getElem?_take, if_pos hi]
end Go.Ai
namespace Go.Proofs.Ytjlkndkedknocaa
open Go Go.Ai
attribute [local instance] Classical.propDecidable
variable {E : Env} (hE : OE E)
include hE
theorem indexI2_ {h : List O} {v : Value} {xs : List Int} {y : Int} (hv : Ints h v xs) (hlt : xs.length < 1000000) :
  DR E 211 [v, .int .i64 y] ⟨h, h.length⟩ (.ret (.int .i64 (firstI (fun j => decide (nth xs j = y)) xs.length))) ⟨h, h.length⟩ := by
 refine hE.fn (body := rb211) rfl ?_
 unfold rb211
 obtain ⟨a, b, o, c, rfl, ha, hrd⟩ := hv.at
 simp
 refine DW_loop (fun kk fr st => ∃ (i : Nat), i + kk = xs.length ∧ st = ⟨h, h.length⟩ ∧ (∀ j, j < i → nth xs j ≠ y) ∧ get fr 0 = .slice a xs.length c ∧ get fr 1 = .int .i64 y ∧ get fr 7 = .int .i64 xs.length ∧ get fr 8 = .int .i64 i) ?_ (k := xs.length) ?_
 ·rintro kk fr st ⟨i, hik, rfl, hm, g0, g1, g7, g8⟩
  by_cases hi : i < xs.length
  ·have hw : IntKind.i64.wrap ((i : Int) + 1) = (i : Int) + 1 := by rw [w64_id] <;> omega
   obtain rfl := ha (by omega)
   have hr := hrd i hi
   by_cases hy : nth xs i = y
   ·have hf : firstI (fun j => decide (nth xs j = y)) xs.length = i := firstI_found hi (by simp [hy]) (fun j hj => by simp [hm j hj])
    rw [hy] at hr
    simp [g0, g1, g7, g8, hi, rd_def, hr, endK_ret, hf]
   ·have hy' : ¬ y = nth xs i := fun e => hy e.symm
    simp [g0, g1, g7, g8, hi, rd_def, hr, hy', hw]
    refine ⟨kk - 1, by omega, i + 1, by omega, fun j hj => ?_, by omega⟩
    by_cases e : j = i
    ·rw [e]; exact hy
    ·exact hm j (by omega)
  ·have hin : i = xs.length := by omega
   subst hin
   have hf : firstI (fun j => decide (nth xs j = y)) xs.length = -1 := firstI_none (fun j hj => by simp [hm j hj])
   simp [g0, g1, g7, g8, endK_ret, hf]
 ·exact ⟨0, by omega, rfl, fun j h => by omega, by simp⟩
theorem containsI_ {h : List O} {v : Value} {xs : List Int} {y : Int} (hv : Ints h v xs) (hlt : xs.length < 1000000) :
  DR E 187 [v, .int .i64 y] ⟨h, h.length⟩ (.ret (.bool (decide (y ∈ xs)))) ⟨h, h.length⟩ := by
 refine hE.fn (body := rb187) rfl ?_
 unfold rb187
 have hi := indexI2_ hE (y := y) hv hlt
 have hiff : (0 ≤ firstI (fun j => decide (nth xs j = y)) xs.length) ↔ y ∈ xs := by
  rcases firstI_cases (fun j => decide (nth xs j = y)) xs.length with ⟨i, h1, h2, _, h3⟩ | ⟨h1, h2⟩
  ·rw [h3]
   have : nth xs i = y := by simpa using h2
   exact ⟨fun _ => this ▸ nth_mem h1, fun _ => by omega⟩
  ·rw [h2]
   refine ⟨fun h => by omega, fun h => ?_⟩
   obtain ⟨j, hj, rfl⟩ := List.getElem_of_mem h
   have := h1 j hj
   rw [nth_eq hj] at this
   simp at this
 simp [DC_of hi, endK_ret, hiff]
theorem clone_ {h : List O} {b n c : Nat} {f : List Int} (hr : rdN h b 0 n = some (intsC f)) (hn : 0 < n) (hs : n ≤ 100000) :
  DR E 179 [.slice (some ⟨b, 0, none⟩) n c] ⟨h, h.length⟩ (.ret (.slice (some ⟨h.length, 0, none⟩) n n)) ⟨h ++ [.cells (intsC f) 3 (some 1)], h.length⟩ := by
 refine hE.fn (body := rb179) rfl ?_
 unfold rb179
 have hall : (intsC f).all one1 = true := by simp [intsC]
 have happ := appendEN (el := 3) (size := 1) (bytes := 8) (c := c) (fl := h.length) (by rw [Nat.mul_one]; exact hr) hn (by omega) hall (by simp only [roomMax]; omega)
 simp [happ, endK_ret]
 unfold pairQ back
 rw [if_neg (by simp [Out.scalar, scalar, flat1, flat])]
 exact ⟨rfl, rfl⟩
end Go.Proofs.Ytjlkndkedknocaa
namespace Go.Proofs.Ytjlkndkedknocaa
open Go Go.Ai
attribute [local instance] Classical.propDecidable
def PrmI (h : List O) (lo n : Nat) (vs : List Value) (Ls : List (List Int)) : Prop :=
 ∀ q, q < Ls.length → ∃ b, vs[q]? = some (.slice (some ⟨b, 0, none⟩) n n) ∧ lo ≤ b ∧ h[b]? = some (.cells (intsC (nthR Ls q)) 3 (some 1))
structure VsI (h : List O) (lo n B po k : Nat) (f : List Int) (Ls : List (List Int)) : Prop where
 buf : ∃ buf, h[B]? = some (.cells (intsC buf) 3 (some 0)) ∧ buf.length = n ∧ buf.take k = f
 out : ∃ ov vs, h[po]? = some (.cells [ov] 48 (some 0)) ∧ OwnS h lo ov Ls.length vs 34 1 ∧ PrmI h lo n vs Ls
 lo_ : lo ≤ h.length
def VisP (h : List O) (base lo n B po k : Nat) (f : List Int) (Ls : List (List Int)) (st' : St) : Prop :=
 base ≤ st'.fl ∧ h.length ≤ st'.h.length ∧ (∀ (b : Nat) (o : O), b < lo → h[b]? = some o → b ≠ po → b ≠ B → st'.h[b]? = some o) ∧ VsI st'.h lo n B po k f Ls
def visV (pn po pv : Nat) : Value := .func (.func 186) #[] #[.pointer (some ⟨pn, 0, none⟩), .pointer (some ⟨po, 0, none⟩), .pointer (some ⟨pv, 0, none⟩)]
theorem take_set_snoc {buf f : List Int} {k : Nat} {x : Int} (h : buf.take k = f) (hk : k < buf.length) : (buf.set k x).take (k + 1) = f ++ [x] := by
 apply List.ext_getElem?
 intro i
 rw [List.getElem?_take]
 have hf : f.length = k := by rw [← h, List.length_take]; omega
 by_cases hi : i < k
 ·rw [if_pos (by omega), List.getElem?_set_ne (by omega), List.getElem?_append_left (by omega), ← h, List.getElem?_take, if_pos hi]
 ·by_cases e : i = k
  ·rw [if_pos (by omega), e, List.getElem?_set_self hk, List.getElem?_append_right (by omega), hf]; simp
  ·rw [if_neg (by omega), List.getElem?_eq_none (by simp; omega)]
variable {E : Env} (hE : OE E)
include hE
theorem visit_ {n lo base B pn po pv : Nat} (hn : n ≤ 6) (h1 : base ≤ B) (h2 : base ≤ po) (h3 : base ≤ lo) (h4 : B < lo) (h5 : po < lo) (h6 : pn < lo) (h7 : pv < lo) (h8 : po ≠ B) (h9 : pn ≠ B) (h10 : pn ≠ po) (h11 : pv ≠ B) (h12 : pv ≠ po) :
  ∀ (m : Nat) {h : List O} {f : List Int} {Ls : List (List Int)}, f.length + m = n → (∀ y ∈ f, 0 ≤ y ∧ y < n) → 0 < n → Ls.length + n ^ m ≤ 1000000 →
   h[pn]? = some (.cells [.int .i64 n] 3 (some 0)) → h[pv]? = some (.cells [visV pn po pv] 226 (some 0)) → VsI h lo n B po f.length f Ls →
   DC E 186 [.slice (some ⟨B, 0, none⟩) f.length n, .pointer (some ⟨pn, 0, none⟩), .pointer (some ⟨po, 0, none⟩), .pointer (some ⟨pv, 0, none⟩)] ⟨h, h.length⟩ fun o st' => o = .ret (.tuple #[]) ∧ VisP h base lo n B po f.length f (Ls ++ visL n m f) st' := by
 intro m
 induction m with
 | zero =>
  intro h f Ls hfm hf hn0 hbd e1 e2 hI
  refine hE.fnC (body := rb186) rfl ?_
  unfold rb186
  obtain ⟨buf, hb, hbl, hbt⟩ := hI.buf
  obtain ⟨ov, vs, ho, hov, hP⟩ := hI.out
  have hlo := hI.lo_
  have hfn : f.length = n := by omega
  have hbf : buf = f := by rw [← hbt, hfn, ← hbl, List.take_length]
  subst hbf
  have hrd : rdN h B 0 n = some (intsC buf) := by
   rw [rdN_def, hb, rdNO_cells, if_pos (by simp; omega)]
   simp [List.take_of_length_le, hbl]
  have hcl := clone_ hE (c := n) hrd hn0 (by omega)
  obtain ⟨H2, hH2⟩ : ∃ H2, H2 = h ++ [O.cells (intsC buf) 3 (some 1)] := ⟨_, rfl⟩
  have hl2 : H2.length = h.length + 1 := by rw [hH2]; simp
  have hE2 : Ext h H2 := by rw [hH2]; exact Ext.snoc _ _
  have hin : H2[h.length]? = some (O.cells (intsC buf) 3 (some 1)) := by rw [hH2, app_at0]; rfl
  have hu2 : OwnS (H2 ++ [.cells [.slice (some ⟨h.length, 0, none⟩) n n] 34 (some 0)]) lo ov Ls.length vs 34 1 := hov.ext (hE2.trans (Ext.snoc _ _))
  have hread : readSlice (H2 ++ [.cells [.slice (some ⟨h.length, 0, none⟩) n n] 34 (some 0)]) 1 1 (some ⟨H2.length, 0, none⟩) = some [.slice (some ⟨h.length, 0, none⟩) n n] := by simp [readSlice, rdN_at0]
  obtain ⟨b', H4, f4, happ, hb', hown, hf1, hf2, hL4, K4⟩ := append_S (fl := h.length) (c := 1) (bytes := 24) hu2 hread (by simp) (by simp) (by simp; omega) (by simp only [roomMax]; omega) (by omega)
  have hnei : ∀ (b : Nat) (cs : List Value) (ow : Option Nat), H2[b]? = some (.cells cs 3 ow) → ∀ n' c', ov ≠ .slice (some ⟨b, 0, none⟩) n' c' := fun b cs ow hb n' c' e => by
   rcases hov.2 with ⟨h1, _⟩ | ⟨b2, s2, h1, h2, h3, _⟩
   ·rw [e] at h1; cases h1
   ·rw [e] at h1
    simp only [Value.slice.injEq, Option.some.injEq, Addr.mk.injEq] at h1
    obtain ⟨l, hl⟩ := hE2
    rw [h1.1.1, hl, app_of h3] at hb
    cases hb
  have hneH : ∀ (b : Nat), b < lo → ∀ n' c', ov ≠ .slice (some ⟨b, 0, none⟩) n' c' := fun b hb n' c' e => by
   rcases hov.2 with ⟨h1, _⟩ | ⟨b2, s2, h1, h2, h3, _⟩
   ·rw [e] at h1; cases h1
   ·rw [e] at h1
    simp only [Value.slice.injEq, Option.some.injEq, Addr.mk.injEq] at h1
    omega
  have kB : ∀ (b : Nat) (o : O), b < lo → h[b]? = some o → H4[b]? = some o := fun b o hbl hb => by
   obtain ⟨l, hl⟩ := hE2
   exact K4 b o (by rw [hl, List.append_assoc]; exact app_of hb _) (hneH b hbl)
  have k4 := kB _ _ h5 ho
  have happ2 := happ
  rw [hl2] at happ2
  simp only [hH2, List.append_assoc, List.cons_append, List.nil_append] at happ2
  rw [hfn]
  simp [rd_def, e1, ho, DC_of hcl, bit, List.append_assoc, happ2, wrN_def, k4, endK_ret]
  unfold pairQ back
  rw [if_neg (by simp; omega)]
  refine ⟨rfl, by simp only; omega, ?_, fun b o hbl hb hn1 hn2 => set_ne (kB b o hbl hb) hn1, ⟨buf, set_ne (kB _ _ h4 hb) (Ne.symm h8), hbl, by rw [← hfn]; exact hbt⟩, ?_, by simp at hL4 ⊢; omega⟩
  ·simp at hL4 ⊢; omega
  ·have hlenL : (Ls ++ visL n 0 buf).length = Ls.length + 1 := by simp [visL]
   refine ⟨_, vs ++ [.slice (some ⟨h.length, 0, none⟩) n n], set_self k4, ?_, fun q hq => ?_⟩
   ·rw [hlenL]
    exact hown.keep fun b s e1 e2 => set_ne e2 (by
     simp at e1 hb'
     omega)
   ·have hvl : vs.length = Ls.length := by have := hov.1; omega
    by_cases e : q < Ls.length
    ·obtain ⟨b, q1, q2, q3⟩ := hP q e
     have hq3 : H2[b]? = some (O.cells (intsC (nthR Ls q)) 3 (some 1)) := by rw [hH2]; exact app_of q3 _
     have hnq : nthR (Ls ++ visL n 0 buf) q = nthR Ls q := by simp [nthR, List.getElem?_append_left e]
     rw [hnq]
     exact ⟨b, by rw [List.getElem?_append_left (by omega)]; exact q1, q2, set_ne (K4 b _ (app_of hq3 _) (hnei b _ _ hq3)) (by omega)⟩
    ·have hqe : q = Ls.length := by omega
     have hnq : nthR (Ls ++ visL n 0 buf) q = buf := by simp [nthR, hqe, visL]
     rw [hnq]
     exact ⟨h.length, by rw [List.getElem?_append_right (by omega), hvl, hqe]; simp, by omega, set_ne (K4 _ _ (app_of hin _) (hnei _ _ _ hin)) (by omega)⟩
 | succ m ih =>
  intro h f Ls hfm hf hn0 hbd e1 e2 hI
  refine hE.fnC (body := rb186) rfl ?_
  unfold rb186
  have hlo := hI.lo_
  have hk : f.length < n := by omega
  have hkn : ¬ f.length = n := by omega
  have hkn' : ¬ (f.length : Int) = n := by omega
  simp [rd_def, e1, hkn, hkn']
  have hvl : visL n (m + 1) f = visI n m f n := rfl
  rw [hvl]
  refine DW_loop (fun kk fr st => ∃ (i : Nat) (h' : List O) (f' : Nat), i + kk = n ∧ st = ⟨h', f'⟩ ∧ base ≤ f' ∧ ((h' = h ∧ f' = h.length ∧ visI n m f i = []) ∨ f' < h.length) ∧ h.length ≤ h'.length ∧ (∀ (b : Nat) (o : O), b < lo → h[b]? = some o → b ≠ po → b ≠ B → h'[b]? = some o) ∧ VsI h' lo n B po f.length f (Ls ++ visI n m f i) ∧
   get fr 0 = .slice (some ⟨B, 0, none⟩) f.length n ∧ get fr 1 = .pointer (some ⟨pn, 0, none⟩) ∧ get fr 2 = .pointer (some ⟨po, 0, none⟩) ∧ get fr 3 = .pointer (some ⟨pv, 0, none⟩) ∧ get fr 15 = .int .i64 n ∧ get fr 16 = .int .i64 i) ?_ (k := n) ?_
  ·rintro kk fr st ⟨i, h', f', hik, rfl, hbf, hfl, hlen, hkeep, hI', g0, g1, g2, g3, g15, g16⟩
   obtain ⟨buf, hb, hbl, hbt⟩ := hI'.buf
   have hlo' := hI'.lo_
   by_cases hi : i < n
   ·have hw : IntKind.i64.wrap ((i : Int) + 1) = (i : Int) + 1 := by rw [w64_id] <;> omega
    have hInt : Ints h' (.slice (some ⟨B, 0, none⟩) f.length n) f := by
     refine ⟨_, B, 0, n, rfl, fun _ => rfl, fun j hj => ?_, fun j => ?_, by omega⟩
     ·rw [rd_def, hb, Nat.zero_add]
      simp only [rdO_cells]
      rw [intsC_get (by omega), take_nth hbt rfl hj]
     ·by_cases hj : j < f.length
      ·have := hf _ (nth_mem hj)
       constructor <;> omega
      ·rw [nth_ge (by omega)]; constructor <;> omega
    have hct := containsI_ hE (y := (i : Int)) hInt (by omega)
    by_cases hmem : (i : Int) ∈ f
    ·have hvs : visI n m f (i + 1) = visI n m f i := by rw [visI_succ, if_pos hmem, List.append_nil]
     simp [g0, g1, g2, g3, g15, g16, hi, DC_of hct, hmem, hw]
     refine ⟨kk - 1, by omega, i + 1, by omega, h', f', ⟨rfl, rfl⟩, hbf, ?_, hlen, hkeep, ?_, by omega⟩
     ·rw [hvs]; exact hfl
     ·rw [hvs]; exact hI'
    ·have hvs : visI n m f (i + 1) = visI n m f i ++ visL n m (f ++ [(i : Int)]) := by rw [visI_succ, if_neg hmem]
     have hpv := hkeep _ _ h7 e2 h12 h11
     have hpn := hkeep _ _ h6 e1 h10 h9
     have hBl := (List.getElem?_eq_some_iff.1 hb).1
     have hx0 : rdN (h' ++ [O.cells [.int .i64 i] 3 (some 0)]) h'.length 0 1 = some [.int .i64 i] := by simp [rdN_at0]
     have happ := append_fit (el := 3) (bytes := 8) (k := f.length) (c := n) (fl := f') (app_of hb [O.cells [.int .i64 i] 3 (some 0)]) (by omega) (by simp; omega) (by rfl) hx0
     rw [intsC_set] at happ
     obtain ⟨H, hH⟩ : ∃ H, H = (h' ++ [O.cells [.int .i64 i] 3 (some 0)]).set B (.cells (intsC (buf.set f.length i)) 3 (some 0)) := ⟨_, rfl⟩
     have hlH : H.length = h'.length + 1 := by rw [hH, List.length_set]; simp
     rw [← hH] at happ
     have hKH : ∀ (b : Nat) (o : O), h'[b]? = some o → b ≠ B → H[b]? = some o := fun b o hb hn => by rw [hH]; exact set_ne (app_of hb _) hn
     have hHB : H[B]? = some (.cells (intsC (buf.set f.length i)) 3 (some 0)) := by rw [hH]; exact set_self (app_of hb _)
     obtain ⟨ov, vs, ho, hov, hP⟩ := hI'.out
     have hfl1 : (f ++ [(i : Int)]).length = f.length + 1 := by simp
     have hIH : VsI H lo n B po (f ++ [(i : Int)]).length (f ++ [(i : Int)]) (Ls ++ visI n m f i) := by
      refine ⟨⟨_, hHB, by simp [hbl], by rw [hfl1]; exact take_set_snoc hbt (by omega)⟩, ⟨ov, vs, hKH _ _ ho h8, ?_, fun q hq => ?_⟩, by omega⟩
      ·refine hov.keep fun b s e1 e2 => hKH _ _ e2 fun e => ?_
       rcases hov.2 with ⟨z1, _⟩ | ⟨b2, s2, z1, z2, z3, _⟩
       ·rw [z1] at e1; cases e1
       ·rw [z1] at e1
        simp only [Value.slice.injEq, Option.some.injEq, Addr.mk.injEq] at e1
        omega
      ·obtain ⟨b, q1, q2, q3⟩ := hP q hq
       exact ⟨b, q1, q2, hKH _ _ q3 (by omega)⟩
     have hvle := visI_le n m f i
     have hmul : (i + 1) * n ^ m ≤ n * n ^ m := Nat.mul_le_mul_right _ (by omega)
     rw [Nat.succ_mul] at hmul
     rw [Nat.pow_succ, Nat.mul_comm] at hbd
     have hcall := ih (h := H) (f := f ++ [(i : Int)]) (Ls := Ls ++ visI n m f i) (by rw [hfl1]; omega) (fun y hy => by
      rcases List.mem_append.1 hy with hy | hy
      ·exact hf y hy
      ·simp at hy; omega) hn0 (by rw [List.length_append]; omega) (hKH _ _ hpn h9) (hKH _ _ hpv h11) hIH
     rw [hfl1] at hcall
     simp [visV] at hpv
     simp [g0, g1, g2, g3, g15, g16, hi, DC_of hct, hmem, rd_def, hpv, bit, happ, -List.length_append]
     refine ⟨Ne.symm h11, hcall.imp ?_⟩
     rintro o ⟨h4', f4⟩ ⟨rfl, r1, r2, r3, r4⟩
     simp only at r1 r2 r3 r4
     have hjf : ∃ f5, joined ⟨H, min f' B⟩ ⟨h4', f4⟩ = ⟨h4', f5⟩ ∧ base ≤ f5 ∧ f5 < h.length := by
      simp only [joined]
      by_cases c : f4 < H.length
      ·rw [if_pos c]; exact ⟨_, rfl, by omega, by omega⟩
      ·rw [if_neg c]; exact ⟨_, rfl, by omega, by omega⟩
     obtain ⟨f5, hj5, hj6, hj7⟩ := hjf
     have hl4 : h.length ≤ h4'.length := by omega
     simp [hj5, bit, g0, g1, g2, g3, g15, g16, hw]
     refine ⟨kk - 1, by omega, i + 1, by omega, h4', f5, ⟨rfl, rfl⟩, hj6, .inr hj7, hl4, fun b o hbl hb hn1 hn2 => r3 b o hbl (hKH _ _ (hkeep b o hbl hb hn1 hn2) hn2) hn1 hn2, ?_, by omega⟩
     rw [hvs, ← List.append_assoc]
     obtain ⟨buf2, y1, y2, y3⟩ := r4.buf
     refine ⟨⟨buf2, y1, y2, ?_⟩, r4.out, r4.lo_⟩
     have := congrArg (List.take f.length) y3
     rw [List.take_take, Nat.min_eq_left (by omega), List.take_left] at this
     exact this
   ·have hin : i = n := by omega
    subst hin
    simp [g0, g1, g2, g3, g15, g16]
    rcases hfl with ⟨rfl, rfl, hv0⟩ | hfl
    ·unfold pairQ
     rw [back_scalar (by rfl) (Nat.le_refl _)]
     exact ⟨rfl, by simp only; omega, Nat.le_refl _, fun b o _ hb _ _ => hb, hI'⟩
    ·unfold pairQ back
     rw [if_neg (by simp; omega)]
     exact ⟨rfl, hbf, hlen, hkeep, hI'⟩
  ·refine ⟨0, h, h.length, by omega, rfl, by omega, .inl ⟨rfl, rfl, by simp [visI]⟩, Nat.le_refl _, fun b o _ hb _ _ => hb, by simpa [visI] using hI, by simp⟩
end Go.Proofs.Ytjlkndkedknocaa
namespace Go.Ai
def permL (n : Nat) : List (List Int) := visL n n []
end Go.Ai
namespace Go.Proofs.Ytjlkndkedknocaa
open Go Go.Ai
attribute [local instance] Classical.propDecidable
def PermsP (h : List O) (lo n : Nat) (v : Value) : Prop := ∃ vs, OwnS h lo v (permL n).length vs 34 1 ∧ PrmI h lo n vs (permL n)
theorem PrmI.keep {h h' : List O} {lo n : Nat} {vs : List Value} {Ls : List (List Int)} (k : PrmI h lo n vs Ls) (hk : ∀ (b : Nat) (o : O), lo ≤ b → h[b]? = some o → h'[b]? = some o) : PrmI h' lo n vs Ls := fun q hq => by
 obtain ⟨b, h1, h2, h3⟩ := k q hq
 exact ⟨b, h1, h2, hk b _ h2 h3⟩
theorem PermsP.keep {h h' : List O} {lo n : Nat} {v : Value} (k : PermsP h lo n v) (hk : ∀ (b : Nat) (o : O), lo ≤ b → h[b]? = some o → h'[b]? = some o) : PermsP h' lo n v := by
 obtain ⟨vs, h1, h2⟩ := k
 refine ⟨vs, h1.keep fun b s e1 e2 => ?_, h2.keep hk⟩
 rcases h1.2 with ⟨z1, _⟩ | ⟨b2, s2, z1, z2, z3, _⟩
 ·rw [z1] at e1; cases e1
 ·rw [z1] at e1
  simp only [Value.slice.injEq, Option.some.injEq, Addr.mk.injEq] at e1
  exact hk b _ (by omega) e2
theorem PermsP.look {h : List O} {lo n : Nat} {v : Value} (k : PermsP h lo n v) : ∃ a, v = .slice a (permL n).length (permL n).length ∧ ∀ q, q < (permL n).length → ∃ b b', a = some ⟨b, 0, none⟩ ∧ lo ≤ b ∧ rdO h[b]? q = some (.slice (some ⟨b', 0, none⟩) n n) ∧ lo ≤ b' ∧ h[b']? = some (.cells (intsC (nthR (permL n) q)) 3 (some 1)) := by
 obtain ⟨vs, ⟨h1, h2⟩, h3⟩ := k
 rcases h2 with ⟨rfl, h0⟩ | ⟨b, s, rfl, hb, hc, _⟩
 ·exact ⟨none, by rw [h0], fun q hq => by omega⟩
 ·refine ⟨_, rfl, fun q hq => ?_⟩
  obtain ⟨b', r1, r2, r3⟩ := h3 q hq
  exact ⟨b, b', rfl, hb, by rw [hc]; exact r1, r2, r3⟩
variable {E : Env} (hE : OE E)
include hE
theorem permutations_ {h0 : List O} {n : Nat} (hn : 1 ≤ n ∧ n ≤ 6) :
  DC E 132 [.int .i64 n] ⟨h0, h0.length⟩ fun o st' => ∃ v, o = .ret v ∧ Sub h0 st'.h ∧ h0.length ≤ st'.fl ∧ PermsP st'.h h0.length n v := by
 refine hE.fnC (body := rb132) rfl ?_
 unfold rb132
 have e1 : (n : Int) * 8 ≤ 140737488355328 := by omega
 have e2 : (n : Int) < 4611686018427387904 := by omega
 have hrep : rep n [Value.int .i64 0] = intsC (List.replicate n 0) := by simp [rep, intsC]
 have hb1 : one1 (.func (.func 186) #[] #[.pointer (some ⟨h0.length, 0, none⟩), .pointer (some ⟨h0.length + 1, 0, none⟩), .pointer (some ⟨h0.length + 2, 0, none⟩)]) = true := rfl
 have hb2 : (Value.func (.func 186) #[] #[.pointer (some ⟨h0.length, 0, none⟩), .pointer (some ⟨h0.length + 1, 0, none⟩), .pointer (some ⟨h0.length + 2, 0, none⟩)]).cells = #[.func (.func 186) #[] #[.pointer (some ⟨h0.length, 0, none⟩), .pointer (some ⟨h0.length + 1, 0, none⟩), .pointer (some ⟨h0.length + 2, 0, none⟩)]] := rfl
 obtain ⟨H, hH⟩ : ∃ H, H = h0 ++ [O.cells [.int .i64 n] 3 (some 0), .cells [.slice none 0 0] 48 (some 0), .cells [visV h0.length (h0.length + 1) (h0.length + 2)] 226 (some 0), .cells (intsC (List.replicate n 0)) 3 (some 0)] := ⟨_, rfl⟩
 have hlH : H.length = h0.length + 4 := by rw [hH]; simp
 have q0 : H[h0.length]? = some (.cells [.int .i64 n] 3 (some 0)) := by rw [hH, app_at0]; rfl
 have q1 : H[h0.length + 1]? = some (.cells [.slice none 0 0] 48 (some 0)) := by rw [hH, app_at]; rfl
 have q2 : H[h0.length + 2]? = some (.cells [visV h0.length (h0.length + 1) (h0.length + 2)] 226 (some 0)) := by rw [hH, app_at]; rfl
 have q3 : H[h0.length + 3]? = some (.cells (intsC (List.replicate n 0)) 3 (some 0)) := by rw [hH, app_at]; rfl
 have hpow : n ^ n ≤ 46656 := by
  have h1 : n ^ n ≤ 6 ^ n := Nat.pow_le_pow_left hn.2 n
  have h2 : 6 ^ n ≤ 6 ^ 6 := Nat.pow_le_pow_right (by omega) hn.2
  omega
 have hv := visit_ hE (n := n) (lo := h0.length + 4) (base := h0.length) (B := h0.length + 3) (pn := h0.length) (po := h0.length + 1) (pv := h0.length + 2) hn.2 (by omega) (by omega) (by omega) (by omega) (by omega) (by omega) (by omega) (by omega) (by omega) (by omega) (by omega) (by omega)
  n (h := H) (f := []) (Ls := []) (by simp) (fun y hy => by simp at hy) (by omega) (by simp; omega) q0 q2
  ⟨⟨_, q3, by simp, by simp⟩, ⟨.slice none 0 0, [], q1, OwnS.nil _ _ _ _, fun q hq => by simp at hq⟩, by omega⟩
 simp only [visV] at hH
 simp at hv
 simp [e1, e2, hrep, wrN_at, set_at, hb1, hb2, rd_at, rd_at0, bit, List.append_assoc, ← hH, ← hlH]
 refine hv.imp ?_
 rintro o ⟨h4, f4⟩ ⟨rfl, r1, r2, r3, r4⟩
 simp only at r1 r2 r3 r4
 obtain ⟨ov, vs, y1, y2, y3⟩ := r4.out
 have hjf : ∃ f5, joined ⟨H, h0.length⟩ ⟨h4, f4⟩ = ⟨h4, f5⟩ ∧ h0.length ≤ f5 := by
  simp only [joined]
  by_cases c : f4 < H.length
  ·rw [if_pos c]; exact ⟨_, rfl, by omega⟩
  ·rw [if_neg c]; exact ⟨_, rfl, by omega⟩
 obtain ⟨f5, hj5, hj6⟩ := hjf
 simp [hj5, bit, rd_def, y1, endK_normal]
 unfold pairQ back
 have hP : PermsP h4 h0.length n ov := by
  refine ⟨vs, ?_, fun q hq => ?_⟩
  ·obtain ⟨z1, z2⟩ := y2
   refine ⟨z1, ?_⟩
   rcases z2 with z2 | ⟨b, s, a1, a2, a3⟩
   ·exact .inl z2
   ·exact .inr ⟨b, s, a1, by omega, a3⟩
  ·obtain ⟨b, a1, a2, a3⟩ := y3 q hq
   exact ⟨b, a1, by omega, a3⟩
 split
 ·rename_i hc
  refine ⟨ov, rfl, Sub.refl _, Nat.le_refl _, ?_⟩
  obtain ⟨a, hov, _⟩ := hP.look
  have hfl : flat ov = true := by
   rw [hov] at hc ⊢
   simp [Out.scalar, scalar, flat1] at hc
   exact hc.1
  have hl0 := flat_len hov hfl
  refine ⟨vs, ⟨y2.1, ?_⟩, fun q hq => by omega⟩
  rcases y2.2 with ⟨z1, z2⟩ | ⟨b, s, a1, a2, a3, a4⟩
  ·exact .inl ⟨z1, z2⟩
  ·rw [a1] at hfl; simp [flat] at hfl
 ·exact ⟨ov, rfl, fun b o hb => by
   have := (List.getElem?_eq_some_iff.1 hb).1
   exact r3 b o (by omega) (by rw [hH]; exact app_of hb _) (by omega) (by omega), hj6, hP⟩
end Go.Proofs.Ytjlkndkedknocaa
namespace Go.Proofs.Ytjlkndkedknocaa
open Go Go.Ai
attribute [local instance] Classical.propDecidable
structure AskI (h : List O) (pI pK pN n : Nat) (A B : List (List Int)) : Prop where
 vI : ∃ v, h[pI]? = some (.cells [v] 48 (some 0)) ∧ Mat h v A
 vK : ∃ v, h[pK]? = some (.cells [v] 48 (some 0)) ∧ Mat h v B
 vN : h[pN]? = some (.cells [.int .i64 n] 3 (some 0))
 rA : RowsOk n A
 rB : RowsOk n B
 len : B.length = A.length
 small : A.length ≤ 100000 ∧ n ≤ 100000
def askV (pI pK pN : Nat) : Value := .func (.func 191) #[] #[.pointer (some ⟨pI, 0, none⟩), .pointer (some ⟨pK, 0, none⟩), .pointer (some ⟨pN, 0, none⟩)]
variable {E : Env} (hE : OE E)
include hE
theorem asks_ {h : List O} {pI pK pN n : Nat} {A B : List (List Int)} {vw : Value} {w : List Int} (hI : AskI h pI pK pN n A B) (hw : Ints h vw w) (hL : LetOk A.length w) :
  DR E 191 [vw, .pointer (some ⟨pI, 0, none⟩), .pointer (some ⟨pK, 0, none⟩), .pointer (some ⟨pN, 0, none⟩)] ⟨h, h.length⟩ (.ret (.bool (!decide (TrivL A B w n)))) ⟨h, h.length⟩ := by
 refine hE.fn (body := rb191) rfl ?_
 unfold rb191
 obtain ⟨v1, e1, m1⟩ := hI.vI
 obtain ⟨v2, e2, m2⟩ := hI.vK
 have e3 := hI.vN
 have ht := isTrivial_ hE m1 m2 hw hI.rA hI.rB hI.len hL hI.small
 simp [rd_def, e1, e2, e3, DC_of ht, endK_ret]
theorem indexF_ {h : List O} {pI pK pN n : Nat} {A B R : List (List Int)} {v : Value} (hI : AskI h pI pK pN n A B) (hR : Mat h v R) (hL : ∀ i, i < R.length → LetOk A.length (nthR R i)) (hlt : R.length < 1000000) :
  DR E 228 [v, askV pI pK pN] ⟨h, h.length⟩ (.ret (.int .i64 (firstI (fun i => !decide (TrivL A B (nthR R i) n)) R.length))) ⟨h, h.length⟩ := by
 refine hE.fn (body := rb228) rfl ?_
 unfold rb228
 obtain ⟨a, b, o, c, vs, rfl, ha, hrd⟩ := hR.at
 simp
 refine DW_loop (fun kk fr st => ∃ (i : Nat), i + kk = R.length ∧ st = ⟨h, h.length⟩ ∧ (∀ j, j < i → TrivL A B (nthR R j) n) ∧ get fr 0 = .slice a R.length c ∧ get fr 1 = askV pI pK pN ∧ get fr 7 = .int .i64 R.length ∧ get fr 8 = .int .i64 i) ?_ (k := R.length) ?_
 ·rintro kk fr st ⟨i, hik, rfl, hm, g0, g1, g7, g8⟩
  by_cases hi : i < R.length
  ·have hw : IntKind.i64.wrap ((i : Int) + 1) = (i : Int) + 1 := by rw [w64_id] <;> omega
   obtain rfl := ha (by omega)
   obtain ⟨hr1, hr2⟩ := hrd i hi
   have hq := asks_ hE hI hr2 (hL i hi)
   by_cases hy : TrivL A B (nthR R i) n
   ·simp [g0, g1, g7, g8, hi, rd_def, hr1, askV, DC_of hq, hy, hw]
    refine ⟨kk - 1, by omega, i + 1, by omega, fun j hj => ?_, by omega⟩
    by_cases e : j = i
    ·rw [e]; exact hy
    ·exact hm j (by omega)
   ·have hf : firstI (fun i => !decide (TrivL A B (nthR R i) n)) R.length = i := firstI_found hi (by simp [hy]) (fun j hj => by simp [hm j hj])
    simp [g0, g1, g7, g8, hi, rd_def, hr1, askV, DC_of hq, hy, endK_ret]
    exact hf.symm
  ·have hin : i = R.length := by omega
   subst hin
   have hf : firstI (fun i => !decide (TrivL A B (nthR R i) n)) R.length = -1 := firstI_none (fun j hj => by simp [hm j hj])
   simp [g0, g1, g7, g8, endK_ret]
   exact hf.symm
 ·exact ⟨0, by omega, rfl, fun j h => by omega, by simp⟩
theorem containsF_ {h : List O} {pI pK pN n : Nat} {A B R : List (List Int)} {v : Value} (hI : AskI h pI pK pN n A B) (hR : Mat h v R) (hL : ∀ i, i < R.length → LetOk A.length (nthR R i)) (hlt : R.length < 1000000) :
  DR E 190 [v, askV pI pK pN] ⟨h, h.length⟩ (.ret (.bool (!decide (∀ i, i < R.length → TrivL A B (nthR R i) n)))) ⟨h, h.length⟩ := by
 refine hE.fn (body := rb190) rfl ?_
 unfold rb190
 have hi := indexF_ hE hI hR hL hlt
 have hiff : (0 ≤ firstI (fun i => !decide (TrivL A B (nthR R i) n)) R.length) ↔ ¬ ∀ i, i < R.length → TrivL A B (nthR R i) n := by
  rcases firstI_cases (fun i => !decide (TrivL A B (nthR R i) n)) R.length with ⟨i, h1, h2, _, h3⟩ | ⟨h1, h2⟩
  ·rw [h3]
   have : ¬ TrivL A B (nthR R i) n := by simpa using h2
   exact ⟨fun _ hall => this (hall i h1), fun _ => by omega⟩
  ·rw [h2]
   refine ⟨fun h => by omega, fun h => absurd (fun i hi => ?_) h⟩
   have := h1 i hi
   simpa using this
 by_cases hall : ∀ i, i < R.length → TrivL A B (nthR R i) n
 ·have h0 : ¬ 0 ≤ firstI (fun i => !decide (TrivL A B (nthR R i) n)) R.length := fun h => hiff.1 h hall
  rw [decide_eq_true hall]
  generalize firstI (fun i => !decide (TrivL A B (nthR R i) n)) R.length = z at hi h0
  simp [DC_of hi, endK_ret, h0]
 ·have h0 := hiff.2 hall
  rw [decide_eq_false hall]
  generalize firstI (fun i => !decide (TrivL A B (nthR R i) n)) R.length = z at hi h0
  simp [DC_of hi, endK_ret, h0]
end Go.Proofs.Ytjlkndkedknocaa
namespace Go.Ai
attribute [local instance] Classical.propDecidable
def lastW (w : List Int) : Nat := w.foldl (fun m x => max m x.natAbs) 0
def readyL (rels : List (List Int)) (j : Nat) : List (List Int) := rels.filter fun r => lastW r == j
def GoodA (n : Nat) (rels A : List (List Int)) : Prop := ∀ i, i < (readyL rels A.length).length → TrivL A (A.map invL) (nthR (readyL rels A.length) i) n
def sumNat (f : Nat → Nat) : Nat → Nat
 | 0 => 0
 | i + 1 => sumNat f i + f i
theorem sumNat_le {f : Nat → Nat} {M : Nat} : ∀ {n : Nat}, (∀ i, i < n → f i ≤ M) → sumNat f n ≤ n * M := by
 intro n
 induction n with
 | zero => intro _; simp [sumNat]
 | succ n ih =>
  intro h
  have h1 := ih fun i hi => h i (by omega)
  have h2 := h n (by omega)
  simp only [sumNat, Nat.succ_mul]
  omega
noncomputable def cntV (n : Nat) (P rels : List (List Int)) : Nat → List (List Int) → Nat
 | 0, _ => 1
 | m + 1, im => sumNat (fun q => if GoodA n rels (im ++ [nthR P q]) then cntV n P rels m (im ++ [nthR P q]) else 0) P.length
noncomputable def cntI (n : Nat) (P rels : List (List Int)) (m : Nat) (im : List (List Int)) (i : Nat) : Nat := sumNat (fun q => if GoodA n rels (im ++ [nthR P q]) then cntV n P rels m (im ++ [nthR P q]) else 0) i
theorem cntV_le (n : Nat) (P rels : List (List Int)) : ∀ m im, cntV n P rels m im ≤ P.length ^ m := by
 intro m
 induction m with
 | zero => intro im; simp [cntV]
 | succ m ih =>
  intro im
  have := sumNat_le (f := fun q => if GoodA n rels (im ++ [nthR P q]) then cntV n P rels m (im ++ [nthR P q]) else 0) (M := P.length ^ m) (n := P.length) fun q _ => by
   split
   ·exact ih _
   ·omega
  rw [Nat.pow_succ, Nat.mul_comm]
  exact this
theorem cntI_le (n : Nat) (P rels : List (List Int)) (m : Nat) (im : List (List Int)) (i : Nat) : cntI n P rels m im i ≤ i * P.length ^ m := sumNat_le fun q _ => by
 split
 ·exact cntV_le _ _ _ _ _
 ·omega
theorem slice_pre {h : List O} {B gl c g : Nat} {cs : List Value} {e : TypeId} (hb : h[B]? = some (.cells cs e (some 0))) (hg : g ≤ c) : sliceV h 1 (.slice (some ⟨B, 0, none⟩) gl c) none (some (.int .i64 g)) none = some (.slice (some ⟨B, 0, none⟩) g c) := by
 have h1 : (g : Int) ≤ c := by omega
 simp [sliceV, mxB, hiB, loB, bound, sliceA, tagOk, hb, h1, hg]
theorem lastW_le {w : List Int} {y : Int} (hy : y ∈ w) : y.natAbs ≤ lastW w := by
 have key : ∀ (l : List Int) (m : Nat), m ≤ l.foldl (fun m x => max m x.natAbs) m ∧ ∀ y ∈ l, y.natAbs ≤ l.foldl (fun m x => max m x.natAbs) m := by
  intro l
  induction l with
  | nil => intro m; exact ⟨Nat.le_refl _, fun y hy => by simp at hy⟩
  | cons z l ih =>
   intro m
   obtain ⟨h1, h2⟩ := ih (max m z.natAbs)
   refine ⟨by simp only [List.foldl_cons]; omega, fun y hy => ?_⟩
   simp only [List.foldl_cons]
   rcases List.mem_cons.1 hy with rfl | hy
   ·omega
   ·exact h2 y hy
 exact (key w 0).2 y hy
end Go.Ai
namespace Go.Proofs.Ytjlkndkedknocaa
open Go Go.Ai
attribute [local instance] Classical.propDecidable
def SubX (pI pK B1 B2 pO : Nat) (h h' : List O) : Prop := ∀ (b : Nat) (o : O), h[b]? = some o → b ≠ pI → b ≠ pK → b ≠ B1 → b ≠ B2 → b ≠ pO → h'[b]? = some o
theorem SubX.refl (pI pK B1 B2 pO : Nat) (h : List O) : SubX pI pK B1 B2 pO h h := fun _ _ k _ _ _ _ _ => k
theorem SubX.trans {pI pK B1 B2 pO : Nat} {a b c : List O} (h : SubX pI pK B1 B2 pO a b) (k : SubX pI pK B1 B2 pO b c) : SubX pI pK B1 B2 pO a c := fun x o e h1 h2 h3 h4 h5 => k x o (h x o e h1 h2 h3 h4 h5) h1 h2 h3 h4 h5
theorem SubX.app {pI pK B1 B2 pO : Nat} {h h' : List O} (k : SubX pI pK B1 B2 pO h h') (l : List O) : SubX pI pK B1 B2 pO h (h' ++ l) := fun b o e h1 h2 h3 h4 h5 => app_of (k b o e h1 h2 h3 h4 h5) l
theorem SubX.set {pI pK B1 B2 pO : Nat} {h h' : List O} (k : SubX pI pK B1 B2 pO h h') {b : Nat} (hb : b = pI ∨ b = pK ∨ b = B1 ∨ b = B2 ∨ b = pO) (o : O) : SubX pI pK B1 B2 pO h (h'.set b o) := fun c o' e h1 h2 h3 h4 h5 => set_ne (k c o' e h1 h2 h3 h4 h5) (by omega)
def RowsB (h : List O) (B c n pO : Nat) (A : List (List Int)) : Prop :=
 ∃ cs, h[B]? = some (.cells cs 34 (some 0)) ∧ cs.length = c ∧ ∀ q, q < A.length → ∃ b s, cs[q]? = some (.slice (some ⟨b, 0, none⟩) n n) ∧ b ≠ pO ∧ h[b]? = some (.cells (intsC (nthR A q)) 3 (some s))
theorem RowsB.mat {h : List O} {B c n pO : Nat} {A : List (List Int)} (k : RowsB h B c n pO A) (hA : ∀ q, q < A.length → PermL n (nthR A q)) (hs : A.length ≤ 1000 ∧ n ≤ 1000) : Mat h (.slice (some ⟨B, 0, none⟩) A.length c) A := by
 obtain ⟨cs, h1, h2, h3⟩ := k
 refine ⟨_, B, 0, c, fun q => (cs[q]?).getD undef, rfl, fun _ => rfl, fun q hq => ?_, by omega⟩
 obtain ⟨b, s, r1, _, r2⟩ := h3 q hq
 have hp := hA q hq
 refine ⟨by rw [rd_def, h1, Nat.zero_add]; simp [r1], ?_⟩
 simp only [r1, Option.getD_some]
 refine ⟨_, b, 0, n, by rw [hp.len], fun _ => rfl, fun j hj => by rw [rd_def, r2, Nat.zero_add]; exact intsC_get hj, fun j => ?_, by rw [hp.len]; omega⟩
 by_cases hj : j < (nthR A q).length
 ·have := hp.rng j hj
  constructor <;> omega
 ·rw [nth_ge (by omega)]; constructor <;> omega
structure DynI (h : List O) (pI pK B1 B2 pO n gens gl : Nat) (c : Int) (A : List (List Int)) : Prop where
 i : h[pI]? = some (.cells [.slice (some ⟨B1, 0, none⟩) gl gens] 48 (some 0))
 k : h[pK]? = some (.cells [.slice (some ⟨B2, 0, none⟩) gl gens] 48 (some 0))
 b1 : RowsB h B1 gens n pO A
 b2 : RowsB h B2 gens n pO (invA A)
 o : h[pO]? = some (.cells [.int .i64 c] 3 (some 0))
theorem nthR_snoc {A : List (List Int)} {f : List Int} {q : Nat} : nthR (A ++ [f]) q = if q < A.length then nthR A q else if q = A.length then f else [] := by
 unfold nthR
 by_cases h : q < A.length
 ·rw [if_pos h]; simp [List.getD_eq_getElem?_getD, List.getElem?_append_left h]
 ·rw [if_neg h, List.getD_eq_getElem?_getD, List.getElem?_append_right (by omega)]
  by_cases e : q = A.length
  ·rw [if_pos e, e]; simp
  ·rw [if_neg e, List.getElem?_eq_none (by simp; omega)]; rfl
theorem RowsB.add {h H : List O} {B c n pO b s : Nat} {A : List (List Int)} {f : List Int} {cs : List Value} (hc : h[B]? = some (.cells cs 34 (some 0))) (hl : cs.length = c) (hr : ∀ q, q < A.length → ∃ b s, cs[q]? = some (.slice (some ⟨b, 0, none⟩) n n) ∧ b ≠ pO ∧ h[b]? = some (.cells (intsC (nthR A q)) 3 (some s)))
  (hA : A.length < c) (hH : H[B]? = some (.cells (cs.set A.length (.slice (some ⟨b, 0, none⟩) n n)) 34 (some 0))) (hk : ∀ b' cs' s', h[b']? = some (.cells cs' 3 (some s')) → b' ≠ pO → H[b']? = some (.cells cs' 3 (some s')))
  (hb : b ≠ pO) (hf : H[b]? = some (.cells (intsC f) 3 (some s))) : RowsB H B c n pO (A ++ [f]) := by
 refine ⟨_, hH, by simp [hl], fun q hq => ?_⟩
 simp at hq
 rw [nthR_snoc]
 by_cases e : q < A.length
 ·rw [if_pos e]
  obtain ⟨b1, s1, r1, r2, r3⟩ := hr q e
  exact ⟨b1, s1, by rw [List.getElem?_set_ne (by omega)]; exact r1, r2, hk _ _ _ r3 r2⟩
 ·have eq : q = A.length := by omega
  rw [if_neg e, if_pos eq, eq]
  exact ⟨b, s, by rw [List.getElem?_set_self (by omega)], hb, hf⟩
theorem RowsB.keep {h h' : List O} {B c n pO : Nat} {A : List (List Int)} (k : RowsB h B c n pO A) (hB : ∀ cs, h[B]? = some (.cells cs 34 (some 0)) → h'[B]? = some (.cells cs 34 (some 0))) (hk : ∀ b' cs' s', h[b']? = some (.cells cs' 3 (some s')) → b' ≠ pO → h'[b']? = some (.cells cs' 3 (some s'))) : RowsB h' B c n pO A := by
 obtain ⟨cs, h1, h2, h3⟩ := k
 refine ⟨cs, hB _ h1, h2, fun q hq => ?_⟩
 obtain ⟨b, s, r1, r2, r3⟩ := h3 q hq
 exact ⟨b, s, r1, r2, hk _ _ _ r3 r2⟩
theorem RowsB.less {h : List O} {B c n pO : Nat} {A : List (List Int)} {f : List Int} (k : RowsB h B c n pO (A ++ [f])) : RowsB h B c n pO A := by
 obtain ⟨cs, h1, h2, h3⟩ := k
 refine ⟨cs, h1, h2, fun q hq => ?_⟩
 obtain ⟨b, s, r1, r2, r3⟩ := h3 q (by simp; omega)
 rw [nthR_snoc, if_pos hq] at r3
 exact ⟨b, s, r1, r2, r3⟩
theorem invA_snoc (A : List (List Int)) (f : List Int) : invA (A ++ [f]) = invA A ++ [invL f] := by simp [invA]
def visV2 (pI pG pY pA pK pR pN pV : Nat) : Value := .func (.func 189) #[] #[.pointer (some ⟨pI, 0, none⟩), .pointer (some ⟨pG, 0, none⟩), .pointer (some ⟨pY, 0, none⟩), .pointer (some ⟨pA, 0, none⟩), .pointer (some ⟨pK, 0, none⟩), .pointer (some ⟨pR, 0, none⟩), .pointer (some ⟨pN, 0, none⟩), .pointer (some ⟨pV, 0, none⟩)]
structure FixI (E : Env) (h : List O) (aa : Option Addr) (pG pY pA pR pN pV pO k n gens : Nat) (vV : Value) (rels : List (List Int)) : Prop where
 g : ∃ vr, h[pG]? = some (.cells [.int .i64 gens, vr] 81 (some 0))
 y : h[pY]? = some (.cells [tok k] 219 (some 0))
 a : h[pA]? = some (.cells [.slice aa (permL n).length (permL n).length] 48 (some 0))
 rows : ∀ q, q < (permL n).length → ∃ b b', aa = some ⟨b, 0, none⟩ ∧ rdO h[b]? q = some (.slice (some ⟨b', 0, none⟩) n n) ∧ b' ≠ pO ∧ h[b']? = some (.cells (intsC (nthR (permL n) q)) 3 (some 1))
 r : ∃ Rb rv, h[pR]? = some (.cells [.slice (some ⟨Rb, 0, none⟩) (gens + 1) (gens + 1)] 129 (some 0)) ∧ h[Rb]? = some (.cells rv 48 (some 0)) ∧ ∀ j, j < gens + 1 → ∃ v, rv[j]? = some v ∧ Mat h v (readyL rels j)
 n_ : h[pN]? = some (.cells [.int .i64 n] 3 (some 0))
 v : h[pV]? = some (.cells [vV] 25 (some 0))
 call : ∀ (v : Value) (c : Int), h[pO]? = some (.cells [.int .i64 c] 3 (some 0)) → 0 ≤ c ∧ c ≤ 10000000000 → DR E (yB + k) [v] ⟨h, h.length⟩ (.ret (.bool true)) ⟨h.set pO (.cells [.int .i64 (c + 1)] 3 (some 0)), min pO k⟩
end Go.Proofs.Ytjlkndkedknocaa
