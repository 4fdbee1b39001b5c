/- How the abstract run's values and memory stand to the machine's. -/
import Derived.Test.YtdbkhecnkhjhpaaAiC
import Derived.WalkKit
namespace Go.Ai

/-- Where a canonical block lies: the machine's block, and the place in it; for a block made by append: the cells of an element, and of the machine's block. -/
structure Loc where
  b : Nat
  sh : Nat
  es : Nat := 0
  sz : Nat := 0
abbrev RM := Nat → Option Loc

def isE : Value → Bool
  | .slice (some ⟨_, _, some _⟩) _ _ => true
  | _ => false

inductive VRel (ρ : RM) : Value → Value → Prop
  | flat {v : Value} : flat v = true → isE v = false → VRel ρ v v
  | empty (a : Addr) : VRel ρ emptyS (.slice (some a) 0 0)
  | ptr {id o : Nat} {l : Loc} : ρ id = some l → VRel ρ (.pointer (some ⟨id, o, none⟩)) (.pointer (some ⟨l.b, l.sh + o, none⟩))
  | slice {id o o' n c c' : Nat} {l : Loc} : ρ id = some l → c ≤ c' → (o' = l.sh + o ∨ c = 0) → n ≤ c → (c' = c ∨ (0 < l.es ∧ o' + c' * l.es ≤ l.sz)) →
      VRel ρ (.slice (some ⟨id, o, none⟩) n c) (.slice (some ⟨l.b, o', none⟩) n c')
  | map {id : Nat} {l : Loc} : ρ id = some l → VRel ρ (.map (some id)) (.map (some l.b))
  | func {f : FuncId} {xs ys : List Value} : xs.length = ys.length → (∀ (i : Nat) a b, xs[i]? = some a → ys[i]? = some b → VRel ρ a b) →
      VRel ρ (.func (.func f) #[] xs.toArray) (.func (.func f) #[] ys.toArray)
  | iface {t : TypeId} {v v' : Value} : VRel ρ v v' → VRel ρ (.iface t v) (.iface t v')
  | agg {xs ys : List Value} : xs.length = ys.length → (∀ (i : Nat) a b, xs[i]? = some a → ys[i]? = some b → VRel ρ a b) →
      VRel ρ (.agg xs.toArray) (.agg ys.toArray)
  | tuple {xs ys : List Value} : xs.length = ys.length → (∀ (i : Nat) a b, xs[i]? = some a → ys[i]? = some b → VRel ρ a b) →
      VRel ρ (.tuple xs.toArray) (.tuple ys.toArray)

def RM.le (ρ ρ' : RM) : Prop := ∀ id l, ρ id = some l → ρ' id = some l
theorem RM.le_refl (ρ : RM) : ρ.le ρ := fun _ _ h => h
theorem RM.le_trans {a b c : RM} (h : a.le b) (k : b.le c) : a.le c := fun id l x => k id l (h id l x)

theorem VRel.mono {ρ ρ' : RM} (hρ : ρ.le ρ') {v v' : Value} (h : VRel ρ v v') : VRel ρ' v v' := by
  induction h with
  | flat h1 h2 => exact .flat h1 h2
  | empty a => exact .empty a
  | ptr h => exact .ptr (hρ _ _ h)
  | slice h a b c d => exact .slice (hρ _ _ h) a b c d
  | map h => exact .map (hρ _ _ h)
  | func hl _ ih => exact .func hl ih
  | iface _ ih => exact .iface ih
  | agg hl _ ih => exact .agg hl ih
  | tuple hl _ ih => exact .tuple hl ih

abbrev LRel (ρ : RM) (xs ys : List Value) : Prop := xs.length = ys.length ∧ ∀ (i : Nat) a b, xs[i]? = some a → ys[i]? = some b → VRel ρ a b

theorem LRel.nil (ρ : RM) : LRel ρ [] [] := ⟨rfl, fun i a b h => by simp at h⟩
theorem LRel.cons {ρ : RM} {x y : Value} {xs ys : List Value} (h : VRel ρ x y) (t : LRel ρ xs ys) : LRel ρ (x :: xs) (y :: ys) := by
  refine ⟨by simp [t.1], fun i a b ha hb => ?_⟩
  cases i with
  | zero => simp at ha hb; subst ha hb; exact h
  | succ i => exact t.2 i a b (by simpa using ha) (by simpa using hb)
theorem LRel.uncons {ρ : RM} {x : Value} {xs zs : List Value} (h : LRel ρ (x :: xs) zs) : ∃ y ys, zs = y :: ys ∧ VRel ρ x y ∧ LRel ρ xs ys := by
  cases zs with
  | nil => simp [LRel] at h
  | cons y ys => exact ⟨y, ys, rfl, h.2 0 x y rfl rfl, by simpa using h.1, fun i a b ha hb => h.2 (i + 1) a b (by simpa using ha) (by simpa using hb)⟩
theorem LRel.mono {ρ ρ' : RM} (hρ : ρ.le ρ') {xs ys : List Value} (h : LRel ρ xs ys) : LRel ρ' xs ys := ⟨h.1, fun i a b ha hb => (h.2 i a b ha hb).mono hρ⟩
theorem LRel.get {ρ : RM} {xs ys : List Value} (h : LRel ρ xs ys) {i : Nat} {a : Value} (ha : xs[i]? = some a) : ∃ b, ys[i]? = some b ∧ VRel ρ a b := by
  have hi : i < xs.length := by
    rcases Nat.lt_or_ge i xs.length with h | h
    · exact h
    · simp [List.getElem?_eq_none h] at ha
  have hi' : i < ys.length := by have := h.1; omega
  exact ⟨ys[i], by simp [hi'], h.2 i _ _ ha (by simp [hi'])⟩
theorem LRel.append {ρ : RM} {xs ys zs us : List Value} (h : LRel ρ xs ys) (k : LRel ρ zs us) : LRel ρ (xs ++ zs) (ys ++ us) := by
  refine ⟨by simp [h.1, k.1], fun i a b ha hb => ?_⟩
  by_cases hi : i < xs.length
  · rw [List.getElem?_append_left hi] at ha
    rw [List.getElem?_append_left (by have := h.1; omega)] at hb
    exact h.2 i a b ha hb
  · rw [List.getElem?_append_right (by omega)] at ha
    rw [List.getElem?_append_right (by have := h.1; omega), ← h.1] at hb
    exact k.2 _ a b ha hb
theorem LRel.take {ρ : RM} {xs ys : List Value} (h : LRel ρ xs ys) (n : Nat) : LRel ρ (xs.take n) (ys.take n) := by
  refine ⟨by simp [h.1], fun i a b ha hb => ?_⟩
  by_cases hi : i < n
  · rw [List.getElem?_take_of_lt hi] at ha hb; exact h.2 i a b ha hb
  · rw [List.getElem?_take, if_neg hi] at ha; cases ha
theorem LRel.drop {ρ : RM} {xs ys : List Value} (h : LRel ρ xs ys) (n : Nat) : LRel ρ (xs.drop n) (ys.drop n) := by
  refine ⟨by simp [h.1], fun i a b ha hb => ?_⟩
  rw [List.getElem?_drop] at ha hb
  exact h.2 _ a b ha hb
theorem LRel.map {ρ : RM} {α : Type} {f g : α → Value} (l : List α) (h : ∀ x ∈ l, VRel ρ (f x) (g x)) : LRel ρ (l.map f) (l.map g) := by
  induction l with
  | nil => exact LRel.nil ρ
  | cons x l ih => exact LRel.cons (h x (by simp)) (ih fun y hy => h y (by simp [hy]))

theorem VRel.agg' {ρ : RM} {xs ys : List Value} (h : LRel ρ xs ys) : VRel ρ (.agg xs.toArray) (.agg ys.toArray) := .agg h.1 h.2
theorem VRel.tuple' {ρ : RM} {xs ys : List Value} (h : LRel ρ xs ys) : VRel ρ (.tuple xs.toArray) (.tuple ys.toArray) := .tuple h.1 h.2

theorem VRel.int {ρ : RM} {k : IntKind} {n : Int} {v : Value} (h : VRel ρ (.int k n) v) : v = .int k n := by cases h; rfl
theorem VRel.bool {ρ : RM} {b : Bool} {v : Value} (h : VRel ρ (.bool b) v) : v = .bool b := by cases h; rfl
theorem VRel.string {ρ : RM} {s : ByteArray} {v : Value} (h : VRel ρ (.string s) v) : v = .string s := by cases h; rfl
theorem VRel.nilIface {ρ : RM} {v : Value} (h : VRel ρ .nilIface v) : v = .nilIface := by cases h; rfl
theorem VRel.nilFunc {ρ : RM} {v : Value} (h : VRel ρ .nilFunc v) : v = .nilFunc := by cases h; rfl
theorem VRel.inv_ptr {ρ : RM} {id o : Nat} {v : Value} (h : VRel ρ (.pointer (some ⟨id, o, none⟩)) v) : ∃ l : Loc, ρ id = some l ∧ v = .pointer (some ⟨l.b, l.sh + o, none⟩) := by
  cases h with
  | flat h => simp [Ai.flat] at h
  | ptr h => exact ⟨_, h, rfl⟩
theorem VRel.inv_map {ρ : RM} {id : Nat} {v : Value} (h : VRel ρ (.map (some id)) v) : ∃ l : Loc, ρ id = some l ∧ v = .map (some l.b) := by
  cases h with
  | flat h => simp [Ai.flat] at h
  | map h => exact ⟨_, h, rfl⟩
theorem VRel.inv_slice {ρ : RM} {id o n c : Nat} {v : Value} (h : VRel ρ (.slice (some ⟨id, o, none⟩) n c) v) :
    ∃ (l : Loc) (o' c' : Nat), ρ id = some l ∧ v = .slice (some ⟨l.b, o', none⟩) n c' ∧ c ≤ c' ∧ (o' = l.sh + o ∨ c = 0) ∧ n ≤ c ∧ (c' = c ∨ (0 < l.es ∧ o' + c' * l.es ≤ l.sz)) := by
  cases h with
  | flat h => simp [Ai.flat] at h
  | slice h a b c d => exact ⟨_, _, _, h, rfl, a, b, c, d⟩
theorem VRel.inv_agg {ρ : RM} {cs : Array Value} {v : Value} (h : VRel ρ (.agg cs) v) : ∃ cs' : Array Value, v = .agg cs' ∧ LRel ρ cs.toList cs'.toList := by
  cases h with
  | flat h => simp [Ai.flat] at h
  | agg h1 h2 => exact ⟨_, rfl, h1, h2⟩
theorem VRel.inv_tuple {ρ : RM} {cs : Array Value} {v : Value} (h : VRel ρ (.tuple cs) v) : ∃ cs' : Array Value, v = .tuple cs' ∧ LRel ρ cs.toList cs'.toList := by
  cases h with
  | flat h => simp [Ai.flat] at h
  | tuple h1 h2 => exact ⟨_, rfl, h1, h2⟩
theorem VRel.inv_iface {ρ : RM} {t : TypeId} {v x : Value} (h : VRel ρ (.iface t x) v) : ∃ y, v = .iface t y ∧ VRel ρ x y := by
  cases h with
  | flat h => simp [Ai.flat] at h
  | iface h => exact ⟨_, rfl, h⟩
theorem VRel.inv_func {ρ : RM} {f : FuncId} {first cap : Array Value} {v : Value} (h : VRel ρ (.func (.func f) first cap) v) :
    first = #[] ∧ ∃ cap' : Array Value, v = .func (.func f) #[] cap' ∧ LRel ρ cap.toList cap'.toList := by
  cases h with
  | flat h _ =>
    simp [Ai.flat] at h
    obtain ⟨h1, h2⟩ := h
    subst h1 h2
    exact ⟨rfl, _, rfl, LRel.nil ρ⟩
  | func h1 h2 => exact ⟨rfl, _, rfl, h1, h2⟩
theorem VRel.undef_ (ρ : RM) : VRel ρ undef undef := .tuple' (xs := []) (ys := []) (LRel.nil ρ)

theorem VRel.flat' {ρ : RM} {v v' : Value} (h : VRel ρ v v') (hf : Ai.flat v = true) (ρ' : RM) : VRel ρ' v v' := by
  cases h with
  | flat a b => exact .flat a b
  | empty a => exact .empty a
  | ptr _ => simp [Ai.flat] at hf
  | slice _ _ _ _ _ => simp [Ai.flat] at hf
  | map _ => simp [Ai.flat] at hf
  | @func f xs ys h1 h2 =>
    simp [Ai.flat] at hf
    subst hf
    have : ys = [] := by simpa using h1.symm
    subst this
    exact .func rfl fun i a b h => by simp at h
  | iface _ => simp [Ai.flat] at hf
  | agg _ _ => simp [Ai.flat] at hf
  | tuple _ _ => simp [Ai.flat] at hf

theorem LRel.all {ρ : RM} {xs ys : List Value} (h : LRel ρ xs ys) {p : Value → Bool} (hp : xs.all p = true) (ρ' : RM) (hq : ∀ a b, p a = true → VRel ρ a b → VRel ρ' a b) : LRel ρ' xs ys :=
  ⟨h.1, fun i a b ha hb => hq a b (List.all_eq_true.1 hp a (List.mem_of_getElem? ha)) (h.2 i a b ha hb)⟩

theorem VRel.flat1' {ρ : RM} {v v' : Value} (h : VRel ρ v v') (hf : flat1 v = true) (ρ' : RM) : VRel ρ' v v' := by
  cases v with
  | agg cs =>
    obtain ⟨cs', rfl, hl⟩ := h.inv_agg
    have := LRel.all hl (p := Ai.flat) (by simpa [flat1] using hf) ρ' (fun a b ha hab => hab.flat' ha ρ')
    exact VRel.agg' this
  | _ => exact h.flat' (by simpa [flat1] using hf) ρ'

theorem VRel.scalar' {ρ : RM} {v v' : Value} (h : VRel ρ v v') (hf : scalar v = true) (ρ' : RM) : VRel ρ' v v' := by
  cases v with
  | tuple cs =>
    obtain ⟨cs', rfl, hl⟩ := h.inv_tuple
    have := LRel.all hl (p := flat1) (by simpa [scalar] using hf) ρ' (fun a b ha hab => hab.flat1' ha ρ')
    exact VRel.tuple' this
  | iface t x =>
    obtain ⟨y, rfl, hy⟩ := h.inv_iface
    exact .iface (hy.flat1' (by simpa [scalar] using hf) ρ')
  | _ => exact h.flat1' (by simpa [scalar] using hf) ρ'

/-- A value that holds no address and no slice without room stands for itself. -/
theorem VRel.same {ρ : RM} {v v' : Value} (h : VRel ρ v v') (hf : Ai.flat v = true) (he : isE v = false) : v' = v := by
  cases h with
  | flat a b => rfl
  | empty a => simp [emptyS, isE] at he
  | ptr _ => simp [Ai.flat] at hf
  | slice _ _ _ _ _ => simp [Ai.flat] at hf
  | map _ => simp [Ai.flat] at hf
  | @func f xs ys h1 h2 =>
    simp [Ai.flat] at hf
    subst hf
    have : ys = [] := by simpa using h1.symm
    rw [this]
  | iface _ => simp [Ai.flat] at hf
  | agg _ _ => simp [Ai.flat] at hf
  | tuple _ _ => simp [Ai.flat] at hf

/-! ### Memory -/
def CellsRel (ρ : RM) (c : List Value) (cs : Array Value) (sh : Nat) : Prop := ∀ (i : Nat) v, c[i]? = some v → ∃ v', cs[sh + i]? = some v' ∧ VRel ρ v v'

def EntRel (ρ : RM) (e e' : MapEntry) : Prop := e'.key = e.key ∧ VRel ρ e.val e'.val ∧ e'.born = e.born

def CRel (ρ : RM) (w : World) (l : Loc) : O → Prop
  | .cells c e own => ∃ cs e' fz, w.heap[l.b]? = some (.cells cs e' fz) ∧ CellsRel ρ c cs l.sh ∧ (∀ s, own = some s → e' = e ∧ fz = (0, 0) ∧ l.es = s ∧ (0 < s → cs.size = l.sz)) ∧ (own = none → l.es = 0)
  | .map es clock => ∃ es' : Array MapEntry, w.heap[l.b]? = some (.map es' clock) ∧ es.length = es'.size ∧
      (∀ (i : Nat) a b, es[i]? = some a → es'[i]? = some b → EntRel ρ a b) ∧ ∀ e ∈ es, e.born < clock
  | .iter m since seen stepped => l.sh = 0 ∧ ∃ m', w.heap[l.b]? = some (.mapIter m' since seen.toArray stepped) ∧
      (match m with | none => m' = none | some id => ∃ k : Loc, ρ id = some k ∧ m' = some k.b)
  | .dead => True

theorem CellsRel.mono {ρ ρ' : RM} (hρ : ρ.le ρ') {c : List Value} {cs : Array Value} {sh : Nat} (h : CellsRel ρ c cs sh) : CellsRel ρ' c cs sh :=
  fun i v hi => let ⟨v', h1, h2⟩ := h i v hi; ⟨v', h1, h2.mono hρ⟩

theorem CRel.mono {ρ ρ' : RM} (hρ : ρ.le ρ') {w : World} {l : Loc} {o : O} (h : CRel ρ w l o) : CRel ρ' w l o := by
  cases o with
  | cells c e own => obtain ⟨cs, e', fz, h1, h2, h3⟩ := h; exact ⟨cs, e', fz, h1, h2.mono hρ, h3⟩
  | map es clock =>
    obtain ⟨es', h1, h3, h4, h5⟩ := h
    exact ⟨es', h1, h3, fun i a b ha hb => let ⟨x, y, z⟩ := h4 i a b ha hb; ⟨x, y.mono hρ, z⟩, h5⟩
  | iter m since seen stepped =>
    obtain ⟨h0, m', h1, h3⟩ := h
    refine ⟨h0, m', h1, ?_⟩
    cases m with
    | none => exact h3
    | some id => obtain ⟨b, h4, h5⟩ := h3; exact ⟨b, hρ _ _ h4, h5⟩
  | dead => trivial

/-- What a relation of a block says depends on the machine's block alone. -/
theorem CRel.same {ρ : RM} {w w' : World} {l : Loc} {o : O} (h : CRel ρ w l o) (hb : w'.heap[l.b]? = w.heap[l.b]?) : CRel ρ w' l o := by
  cases o with
  | cells c e ro => obtain ⟨cs, e', fz, h1, h2, h3⟩ := h; exact ⟨cs, e', fz, hb.trans h1, h2, h3⟩
  | map es clock => obtain ⟨es', h1, h2⟩ := h; exact ⟨es', hb.trans h1, h2⟩
  | iter m since seen stepped => obtain ⟨h0, m', h1, h2⟩ := h; exact ⟨h0, m', hb.trans h1, h2⟩
  | dead => trivial

def O.live : O → Bool
  | .dead => false
  | _ => true

def O.own : O → Bool
  | .cells _ _ (some _) | .map _ _ | .iter _ _ _ _ => true
  | _ => false

theorem CRel.lt {ρ : RM} {w : World} {l : Loc} {o : O} (h : CRel ρ w l o) (hl : o.live = true) : l.b < w.heap.size := by
  have key : ∀ x, w.heap[l.b]? = some x → l.b < w.heap.size := fun x hx => (Array.getElem?_eq_some_iff.1 hx).1
  cases o with
  | cells c e ro => obtain ⟨cs, e', fz, h1, _⟩ := h; exact key _ h1
  | map es clock => obtain ⟨es', h1, _⟩ := h; exact key _ h1
  | iter m since seen stepped => obtain ⟨_, m', h1, _⟩ := h; exact key _ h1
  | dead => simp [O.live] at hl

end Go.Ai
