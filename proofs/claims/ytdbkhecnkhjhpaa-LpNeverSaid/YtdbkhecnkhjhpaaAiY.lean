/- Slices that grow; bounds of sums. -/
import Derived.Test.YtdbkhecnkhjhpaaAiX
namespace Go.Ai
set_option linter.unusedSimpArgs false
set_option linter.unusedVariables false

theorem Ext.set {h0 h : List O} (k : Ext h0 h) {b : Nat} (hb : h0.length ≤ b) (o : O) : Ext h0 (h.set b o) := by
  obtain ⟨l, rfl⟩ := k
  exact ⟨l.set (b - h0.length) o, by rw [List.set_append_right _ _ hb]⟩

/-- A slice of one's own that is as long as its room: k elements. -/
def OwnS (h : List O) (lo : Nat) (v : Value) (k : Nat) (cs : List Value) (el : TypeId) (size : Nat) : Prop :=
  cs.length = k * size ∧ ((v = .slice none 0 0 ∧ k = 0) ∨ ∃ b s, v = .slice (some ⟨b, 0, none⟩) k k ∧ lo ≤ b ∧ h[b]? = some (.cells cs el (some s)) ∧ (s = 0 ∨ s = size))
theorem OwnS.nil (h : List O) (lo : Nat) (el : TypeId) (size : Nat) : OwnS h lo (.slice none 0 0) 0 [] el size := ⟨by simp, .inl ⟨rfl, rfl⟩⟩
theorem OwnS.ext {h h' : List O} {lo k : Nat} {v : Value} {cs : List Value} {el : TypeId} {size : Nat} (ho : OwnS h lo v k cs el size) (e : Ext h h') : OwnS h' lo v k cs el size := by
  refine ⟨ho.1, ?_⟩
  rcases ho.2 with h1 | ⟨b, s, h1, h2, h3, h4⟩
  · exact .inl h1
  · obtain ⟨l, rfl⟩ := e
    exact .inr ⟨b, s, h1, h2, by rw [List.getElem?_append_left (List.getElem?_eq_some_iff.1 h3).1]; exact h3, h4⟩
theorem append_own {h0 H : List O} {lo k n fl c : Nat} {v : Value} {cs new : List Value} {el : TypeId} {size bytes : Nat} {xb : Option Addr}
    (ho : OwnS H lo v k cs el size) (hx : readSlice H size n xb = some new) (hnew : new.length = n * size) (hone : new.all one1 = true) (he : Ext h0 H) (hlo : h0.length = lo) (hfl : fl ≤ lo) (hroom : (k + n) * bytes ≤ roomMax) (hn : 0 < n) :
    ∃ v' H', appendV el size bytes v (.slice xb n c) ⟨H, fl⟩ = some (v', ⟨H', fl⟩) ∧ OwnS H' lo v' (k + n) (cs ++ new) el size ∧ Ext h0 H' := by
  obtain ⟨hl, hv⟩ := ho
  rcases hv with ⟨rfl, rfl⟩ | ⟨b, s, rfl, hb, hcell, hs⟩
  · refine ⟨.slice (some ⟨H.length, 0, none⟩) (0 + n) (0 + n), H ++ [.cells ([] ++ new) el (some size)], ?_, ⟨?_, .inr ⟨H.length, size, rfl, ?_, ?_, .inr rfl⟩⟩, he.trans (Ext.snoc _ _)⟩
    · simp only [appendV, hx, bind, Option.bind_some, appendCells]
      rw [if_neg (by omega), if_neg (by omega), if_pos ⟨hroom, hone⟩]
      simp [readSlice, kill]
    · simp [hl, hnew, Nat.add_mul]
    · rw [← hlo]; exact he.len
    · have : cs = [] := by
        have : cs.length = 0 := by simp [hl]
        exact List.length_eq_zero_iff.1 this
      simp [this]
  · have hread : readSlice H size k (some ⟨b, 0, none⟩) = some cs := by
      simp only [readSlice]
      split
      · rename_i h0'
        have : cs = [] := List.length_eq_zero_iff.1 (by omega)
        rw [this]
      · simp [rdN, hcell, hl]
        exact List.take_of_length_le (by omega)
    refine ⟨.slice (some ⟨H.length, 0, none⟩) (k + n) (k + n), (H.set b .dead) ++ [.cells (cs ++ new) el (some size)], ?_, ⟨?_, .inr ⟨H.length, size, rfl, ?_, ?_, .inr rfl⟩⟩, (he.set (by omega) _).trans (Ext.snoc _ _)⟩
    · simp only [appendV, hx, bind, Option.bind_some, appendCells]
      rw [if_neg (by omega), if_neg (by omega), if_pos ⟨hroom, hone⟩, hread]
      simp only [kill, hcell, Option.bind_some]
      rw [if_pos ⟨hs, by simp⟩]
      simp only [Option.bind_some, List.length_set]
      rw [show min fl b = fl by omega]
    · simp [hl, hnew, Nat.add_mul]
    · rw [← hlo]; exact he.len
    · simp
theorem OwnS.ints {h : List O} {lo k : Nat} {v : Value} {xs : List Int} {el : TypeId} (ho : OwnS h lo v k (xs.map (.int .i64)) el 1) (hx : ∀ i, I64 (nth xs i)) (hk : k < 2 ^ 62) : Ints h v xs := by
  obtain ⟨h1, h2⟩ := ho
  have hlen : xs.length = k := by simpa using h1
  rcases h2 with ⟨rfl, rfl⟩ | ⟨b, s, rfl, h3, h4, h5⟩
  · have : xs = [] := List.length_eq_zero_iff.1 hlen
    subst this
    exact Ints.nil
  · refine ⟨some ⟨b, 0, none⟩, b, 0, k, by rw [hlen], fun _ => rfl, fun i hi => ?_, hx, by omega⟩
    simp [rd, h4, hi, nth]

@[simp] theorem wrN_snoc (h : List O) (c : List Value) (el : TypeId) (s i : Nat) (vs : List Value) :
    wrN (h ++ [.cells c el (some s)]) h.length i vs = if i + vs.length ≤ c.length ∧ vs.all one1 = true then some (h ++ [.cells (setL c i vs) el (some s)]) else none := by
  simp [wrN]
@[simp] theorem one1_int {k n} : one1 (.int k n) = true := rfl
@[simp] theorem one1_bool {b} : one1 (.bool b) = true := rfl
@[simp] theorem one1_slice {a n c} : one1 (.slice a n c) = true := rfl
@[simp] theorem one1_ptr {a} : one1 (.pointer a) = true := rfl
@[simp] theorem one1_map {a} : one1 (.map a) = true := rfl
@[simp] theorem setL_nil {c : List Value} {i : Nat} : setL c i [] = c := rfl
@[simp] theorem setL_cons {c : List Value} {i : Nat} {v : Value} {vs : List Value} : setL c i (v :: vs) = setL (c.set i v) (i + 1) vs := rfl
@[simp] theorem fillL_nil {c : List Value} : fillL c [] = some c := rfl
@[simp] theorem fillL_cons {c : List Value} {off size : Nat} {v : Value} {rest} : fillL c ((off, size, v) :: rest) = if v.cells.toList.length = size ∧ off + size ≤ c.length then fillL (setL c off v.cells.toList) rest else none := rfl

@[simp] theorem joined_ext (h h' : List O) (f : Nat) : joined ⟨h, f⟩ ⟨h', h.length⟩ = ⟨h', f⟩ := by simp [joined]
/-! ### A frame is forgotten but for some cells -/
theorem resQ_forget {E : Env} {x : Option (Res × St)} {d : Option Nat} {os : List ROper} {fr : Fr} {Q : Post} (P : Fr → Prop) (h : ∀ fr', P fr' → resQ x (stepK E d os fr' Q)) (hp : P fr) : resQ x (stepK E d os fr Q) := h fr hp
theorem DW_forget {E : Env} {r : R} {fr : Fr} {st : St} {Q : Post} (P : Fr → Prop) (h : ∀ fr', P fr' → DW E r fr' st Q) (hp : P fr) : DW E r fr st Q := h fr hp
theorem DL_forget {E : Env} {l : List ROper} {fr : Fr} {st : St} {Q : Post} (P : Fr → Prop) (h : ∀ fr', P fr' → DL E l fr' st Q) (hp : P fr) : DL E l fr st Q := h fr hp

/-! ### Bounds -/
theorem tdiv_cases (a d : Int) : (0 ≤ a ∧ a.tdiv d = a / d ∧ a.tmod d = a % d) ∨ (a < 0 ∧ a.tdiv d = -((-a) / d) ∧ a.tmod d = -((-a) % d)) := by
  by_cases h : 0 ≤ a
  · exact .inl ⟨h, Int.tdiv_eq_ediv_of_nonneg h, Int.tmod_eq_emod_of_nonneg h⟩
  · refine .inr ⟨by omega, ?_, ?_⟩
    · have := Int.tdiv_eq_ediv_of_nonneg (a := -a) (b := d) (by omega)
      rw [Int.neg_tdiv] at this
      omega
    · have := Int.tmod_eq_emod_of_nonneg (a := -a) (b := d) (by omega)
      rw [Int.neg_tmod] at this
      omega
theorem mul_bound {x y a b : Int} (h1 : -a ≤ x ∧ x ≤ a) (h2 : -b ≤ y ∧ y ≤ b) : -(a * b) ≤ x * y ∧ x * y ≤ a * b := by
  have e1 : x.natAbs ≤ a.natAbs := by omega
  have e2 : y.natAbs ≤ b.natAbs := by omega
  have e3 : (x * y).natAbs ≤ (a * b).natAbs := by rw [Int.natAbs_mul, Int.natAbs_mul]; exact Nat.mul_le_mul e1 e2
  have e4 : 0 ≤ a * b := Int.mul_nonneg (by omega) (by omega)
  omega
theorem sumN_bound {f : Nat → Int} {M : Int} {n : Nat} (h : ∀ i, i < n → -M ≤ f i ∧ f i ≤ M) : -(n * M) ≤ sumN f n ∧ sumN f n ≤ n * M := by
  induction n with
  | zero => simp [sumN]
  | succ n ih =>
    have h1 := ih fun i hi => h i (by omega)
    have h2 := h n (by omega)
    simp only [sumN, Int.natCast_succ, Int.add_mul, Int.one_mul]
    omega
theorem sumN_add (f g : Nat → Int) (n : Nat) : sumN (fun i => f i + g i) n = sumN f n + sumN g n := by
  induction n with
  | zero => rfl
  | succ n ih => simp only [sumN, ih]; omega
theorem sumN_mul (c : Int) (f : Nat → Int) (n : Nat) : sumN (fun i => c * f i) n = c * sumN f n := by
  induction n with
  | zero => simp [sumN]
  | succ n ih => simp only [sumN, ih, Int.mul_add]
theorem sumN_le {f g : Nat → Int} {n : Nat} (h : ∀ i, i < n → f i ≤ g i) : sumN f n ≤ sumN g n := by
  induction n with
  | zero => simp [sumN]
  | succ n ih =>
    have h1 := ih fun i hi => h i (by omega)
    have h2 := h n (by omega)
    simp only [sumN]
    omega
theorem sumN_swap (f : Nat → Nat → Int) (n m : Nat) : sumN (fun i => sumN (fun j => f i j) m) n = sumN (fun j => sumN (fun i => f i j) n) m := by
  induction n with
  | zero =>
    simp only [sumN]
    induction m with
    | zero => rfl
    | succ m ih => simp only [sumN, ← ih]; rfl
  | succ n ih => simp only [sumN, ih, sumN_add]
end Go.Ai
