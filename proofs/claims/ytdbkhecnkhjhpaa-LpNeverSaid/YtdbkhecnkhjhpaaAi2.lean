/- The operations, one by one: what the abstract run computes the machine computes too. First: those that turn no memory. -/
import Derived.Test.YtdbkhecnkhjhpaaAi1
namespace Go.Ai
open Go.RowKit
set_option linter.unusedSimpArgs false
set_option linter.unusedVariables false
variable {P : Program} {ρ : RM} {w : World}

theorem flat_int (k : IntKind) (n : Int) : VRel ρ (.int k n) (.int k n) := .flat rfl rfl
theorem flat_bool (b : Bool) : VRel ρ (.bool b) (.bool b) := .flat rfl rfl

theorem binV_ok {op : BinOp} {t : TypeId} {X Y : Operand} {x y z x' y' : Value} (h : binV op x y = some z) (hx : VRel ρ x x') (hy : VRel ρ y y') :
    ∃ v, (do eqGuard op t X Y x' y'; binOp op t x' y' : Sem Value).run P w = .ok v w ∧ VRel ρ z v := by
  unfold binV at h
  split at h
  · rename_i k a yk b
    obtain rfl := hx.int
    obtain rfl := hy.int
    have hg : (eqGuard op t X Y (.int k a) (.int yk b)).run P w = .ok () w := by cases op <;> rfl
    split at h
    · split at h
      · cases h
      · rename_i hb
        obtain rfl := Option.some.inj h
        refine ⟨_, ?_, flat_int _ _⟩
        simp [hg, binOp, Op.shift, hb, Sem.run_bind, Result.andThen]
    · split at h
      · cases h
      · rename_i hb
        obtain rfl := Option.some.inj h
        refine ⟨_, ?_, flat_int _ _⟩
        simp [hg, binOp, Op.shift, hb, Sem.run_bind, Result.andThen]
    · rename_i h1 h2
      split at h
      · rename_i hk
        subst hk
        unfold intBin at h
        refine ⟨z, ?_, ?_⟩
        · cases op <;> first
            | (obtain rfl := Option.some.inj h; simp [hg, binOp, Op.intArith, Op.intBits, Op.intCmp, Sem.run_bind, Result.andThen]; done)
            | (simp only [] at h; split at h
               · cases h
               · rename_i hb; obtain rfl := Option.some.inj h; simp [hg, binOp, Op.intDiv, hb, Sem.run_bind, Result.andThen])
            | (cases h)
            | (exact absurd rfl h1)
            | (exact absurd rfl h2)
        · cases op <;> first
            | (obtain rfl := Option.some.inj h; exact .flat rfl rfl)
            | (simp only [] at h; split at h
               · cases h
               · obtain rfl := Option.some.inj h; exact .flat rfl rfl)
            | (cases h)
      · cases h
  · rename_i a b
    obtain rfl := hx.string
    obtain rfl := hy.string
    have hg : (eqGuard op t X Y (.string a) (.string b)).run P w = .ok () w := by cases op <;> rfl
    split at h
    · obtain rfl := Option.some.inj h
      exact ⟨_, by simp [hg, binOp, Op.stringOp, Sem.run_bind, Result.andThen], .flat rfl rfl⟩
    · obtain rfl := Option.some.inj h
      exact ⟨_, by simp [hg, binOp, Op.stringOp, Sem.run_bind, Result.andThen], .flat rfl rfl⟩
    · cases h
  · cases h

theorem binBV_ok {op : BinOp} {t : TypeId} {X Y : Operand} {x y z x' y' : Value} (ht : P.underlying t = some .bool) (h : binBV op x y = some z) (hx : VRel ρ x x') (hy : VRel ρ y y') :
    ∃ v, (do eqGuard op t X Y x' y'; binOp op t x' y' : Sem Value).run P w = .ok v w ∧ VRel ρ z v := by
  unfold binBV at h
  split at h
  · rename_i a b
    obtain rfl := hx.bool
    obtain rfl := hy.bool
    have hg : (eqGuard .eql t X Y (.bool a) (.bool b)).run P w = .ok () w := rfl
    obtain rfl := Option.some.inj h
    exact ⟨_, by simp [hg, Sem.run_bind, Result.andThen, run_eql_bool w t a b ht], .flat rfl rfl⟩
  · rename_i a b
    obtain rfl := hx.bool
    obtain rfl := hy.bool
    have hg : (eqGuard .neq t X Y (.bool a) (.bool b)).run P w = .ok () w := rfl
    obtain rfl := Option.some.inj h
    exact ⟨_, by simp [hg, Sem.run_bind, Result.andThen, run_neq_bool w t a b ht], .flat rfl rfl⟩
  · cases h

theorem unV_ok {op : UnOp} {x z x' : Value} (h : unV op x = some z) (hx : VRel ρ x x') : ∃ v, (Op.unary op x').run P w = .ok v w ∧ VRel ρ z v := by
  unfold unV at h
  split at h
  · obtain rfl := hx.int
    obtain rfl := Option.some.inj h
    exact ⟨_, by simp [Op.unary, Op.intArith], .flat rfl rfl⟩
  · obtain rfl := hx.bool
    obtain rfl := Option.some.inj h
    exact ⟨_, by simp [Op.unary], .flat rfl rfl⟩
  · cases h

theorem conv_ok {src dst : TypeId} {ks k kv : IntKind} {n : Int} {x' : Value} (hs : P.underlying src = some (.int ks)) (hd : P.underlying dst = some (.int k)) (hx : VRel ρ (.int kv n) x') :
    (convert src dst x').run P w = .ok (.int k (k.wrap n)) w := by
  obtain rfl := hx.int
  simp [convert, run_underlying hs, run_underlying hd, Sem.run_bind, Result.andThen, Conv.intToInt]

theorem equal_of_in {t : TypeId} {x y : Value} {b : Bool} (h : ∀ d, (Op.equalIn (d + 1) t x y).run P w = .ok b w) : (Op.equal t x y).run P w = .ok b w := h 9999

def isAggD : TypeDesc → Bool
  | .struct _ | .array _ _ => true
  | _ => false
theorem run_isAgg {t : TypeId} {d : TypeDesc} (h : P.underlying t = some d) : (isAgg t).run P w = .ok (isAggD d) w := by
  simp only [isAgg, Sem.run_bind, run_underlying h, Result.andThen]
  cases d <;> rfl

/-- Held against nil. -/
theorem eqNil_ok {neg : Bool} {t : TypeId} {X Y : Operand} {x x' : Value} {b : Bool} {k : Nat} (hk : nilK P t Y = some k) (h : isNil k x = some b) (hx : VRel ρ x x') (e' : Operand → Value) (he : ∀ v, e' (.const v) = v) :
    (do eqGuard (if neg then .neq else .eql) t X Y x' (e' Y); binOp (if neg then .neq else .eql) t x' (e' Y) : Sem Value).run P w = .ok (.bool (neg != b)) w := by
  have key : ∀ (y : Value), Y = .const y → (Op.equal t x' y).run P w = .ok b w → (∀ z, x' ≠ .agg z) → (∀ q n, x' ≠ .int q n) → (∀ q n, x' ≠ .float q n) → (∀ q n m, x' ≠ .complex q n m) → (∀ s, x' ≠ .string s) →
      (do eqGuard (if neg then .neq else .eql) t X Y x' (e' Y); binOp (if neg then .neq else .eql) t x' (e' Y) : Sem Value).run P w = .ok (.bool (neg != b)) w := by
    intro y hy hr h1 h2 h3 h4 h5
    subst hy
    rw [he]
    have hg : (eqGuard (if neg then .neq else .eql) t X (.const y) x' y).run P w = .ok () w := by
      unfold eqGuard
      cases neg <;> simp <;> (cases x' <;> simp_all) <;> (cases y <;> simp_all)
    rw [Sem.run_bind, hg]
    simp only [Result.andThen]
    cases neg
    · cases x' <;> simp_all [binOp, Result.andThen] 
    · cases x' <;> simp_all [binOp, Result.andThen] 
  unfold nilK at hk
  split at hk
  · rename_i el hu
    obtain rfl := Option.some.inj hk
    have : ∃ a, x' = .pointer a ∧ b = a.isNone := by
      cases x <;> simp [isNil] at h
      rename_i a
      subst h
      cases a with
      | none => cases hx; exact ⟨_, rfl, rfl⟩
      | some a => cases hx with
        | flat h => simp [Ai.flat] at h
        | ptr h => exact ⟨_, rfl, rfl⟩
    obtain ⟨a, rfl, rfl⟩ := this
    refine key _ rfl ?_ (by simp) (by simp) (by simp) (by simp) (by simp)
    refine equal_of_in fun d => ?_
    cases a <;> simp [Op.equalIn, run_underlying hu, Sem.run_bind, Result.andThen]
  · rename_i el hu
    obtain rfl := Option.some.inj hk
    have : ∃ a n c, x' = .slice a n c ∧ b = a.isNone := by
      cases x <;> simp [isNil] at h
      rename_i a n c
      subst h
      cases a with
      | none => cases hx; exact ⟨_, _, _, rfl, rfl⟩
      | some a => cases hx with
        | flat h1 h2 =>
          obtain ⟨b, o, sp⟩ := a
          cases sp with
          | none => simp [Ai.flat] at h1
          | some s => simp [isE] at h2
        | empty a => exact ⟨_, _, _, rfl, rfl⟩
        | slice _ _ _ _ _ => exact ⟨_, _, _, rfl, rfl⟩
    obtain ⟨a, n, c, rfl, rfl⟩ := this
    refine key _ rfl ?_ (by simp) (by simp) (by simp) (by simp) (by simp)
    refine equal_of_in fun d => ?_
    cases a <;> simp [Op.equalIn, run_underlying hu, Sem.run_bind, Result.andThen]
  · rename_i el hu
    obtain rfl := Option.some.inj hk
    have : ∃ a, x' = .map a ∧ b = a.isNone := by
      cases x <;> simp [isNil] at h
      rename_i a
      subst h
      cases a with
      | none => cases hx; exact ⟨_, rfl, rfl⟩
      | some a => cases hx with
        | flat h => simp [Ai.flat] at h
        | map h => exact ⟨_, rfl, rfl⟩
    obtain ⟨a, rfl, rfl⟩ := this
    refine key _ rfl ?_ (by simp) (by simp) (by simp) (by simp) (by simp)
    refine equal_of_in fun d => ?_
    cases a <;> simp [Op.equalIn, run_underlying hu, Sem.run_bind, Result.andThen]
  · rename_i hu
    obtain rfl := Option.some.inj hk
    have : (x' = .nilFunc ∧ b = true) ∨ (∃ f cap, x' = .func (.func f) #[] cap ∧ b = false) := by
      cases x with
      | nilFunc => simp [isNil] at h; exact .inl ⟨hx.nilFunc, h⟩
      | func fn first cap =>
        cases fn <;> simp [isNil] at h
        obtain ⟨rfl, cap', rfl, _⟩ := hx.inv_func
        exact .inr ⟨_, _, rfl, h⟩
      | _ => simp [isNil] at h
    rcases this with ⟨rfl, rfl⟩ | ⟨f, cap, rfl, rfl⟩
    all_goals
      refine key _ rfl ?_ (by simp) (by simp) (by simp) (by simp) (by simp)
      refine equal_of_in fun d => ?_
      simp [Op.equalIn, run_underlying hu, Sem.run_bind, Result.andThen]
  · rename_i ms hu
    obtain rfl := Option.some.inj hk
    have : (x' = .nilIface ∧ b = true) ∨ (∃ u y, x' = .iface u y ∧ b = false) := by
      cases x with
      | nilIface => simp [isNil] at h; exact .inl ⟨hx.nilIface, h⟩
      | iface u y =>
        simp [isNil] at h
        obtain ⟨y', rfl, _⟩ := hx.inv_iface
        exact .inr ⟨_, _, rfl, h⟩
      | _ => simp [isNil] at h
    rcases this with ⟨rfl, rfl⟩ | ⟨u, y, rfl, rfl⟩
    all_goals
      refine key _ rfl ?_ (by simp) (by simp) (by simp) (by simp) (by simp)
      refine equal_of_in fun d => ?_
      simp [Op.equalIn, run_underlying hu, Sem.run_bind, Result.andThen]
  · cases hk

/-! ### Values that are compared cell by cell -/
theorem eqCells_append {a b c d : List Value} (h : a.length = c.length) : eqCells (a ++ b) (c ++ d) = (eqCells a c && eqCells b d) := by
  induction a generalizing c with
  | nil => cases c with
    | nil => simp [eqCells]
    | cons x c => simp at h
  | cons x a ih => cases c with
    | nil => simp at h
    | cons y c => simp only [List.cons_append, eqCells, ih (by simpa using h), Bool.and_assoc]

theorem fitsAll_length {sh : List (Option IntKind)} {l : List Value} (h : fitsAll sh l = true) : l.length = sh.length := by
  induction sh generalizing l with
  | nil => cases l <;> simp_all [fitsAll]
  | cons s sh ih => cases l with
    | nil => simp [fitsAll] at h
    | cons x l => simp [fitsAll] at h; simp [ih h.2]

theorem fitsAll_append {s t : List (Option IntKind)} {l : List Value} (h : fitsAll (s ++ t) l = true) : fitsAll s (l.take s.length) = true ∧ fitsAll t (l.drop s.length) = true := by
  induction s generalizing l with
  | nil => simpa [fitsAll] using h
  | cons a s ih => cases l with
    | nil => simp [fitsAll] at h
    | cons x l =>
      simp [fitsAll] at h
      have := ih h.2
      simp [fitsAll, h.1, this]

/-- A value of a type of a shape. -/
def Fit (d : TypeDesc) (sh : List (Option IntKind)) (v : Value) : Prop :=
  if isAggD d then ∃ cs, v = .agg cs ∧ fitsAll sh cs.toList = true else fitsAll sh [v] = true

def cellsV (v : Value) : List Value := v.cells.toList

theorem eqCells_split {m : Nat} {xs ys : List Value} (h : xs.length = ys.length) : eqCells xs ys = (eqCells (xs.take m) (ys.take m) && eqCells (xs.drop m) (ys.drop m)) := by
  conv => lhs; rw [← List.take_append_drop m xs, ← List.take_append_drop m ys]
  exact eqCells_append (by simp [h])

theorem info_of_size {t : TypeId} {n : Nat} (hs : sizeC P t = some n) : ∃ i, P.info? t = some i ∧ i.size = n := by
  unfold sizeC at hs
  cases h : P.info? t with
  | none => simp [h] at hs
  | some i => exact ⟨i, rfl, by simpa [h] using hs⟩
theorem run_size {t : TypeId} {n : Nat} (hs : sizeC P t = some n) : (sizeOf t).run P w = .ok n w := by
  obtain ⟨i, hi, rfl⟩ := info_of_size hs
  simp [sizeOf, typeInfo, hi]

theorem one_of_length {l : List Value} (h : l.length = 1) : ∃ v, l = [v] := by
  match l, h with
  | [v], _ => exact ⟨v, rfl⟩

theorem run_part_agg {t : TypeId} {d : TypeDesc} {n : Nat} {xs : Array Value} {off : Nat} (hd : P.underlying t = some d) (ha : isAggD d = true) (hs : sizeC P t = some n) :
    (part t xs off).run P w = .ok (.agg ((xs.toList.drop off).take n).toArray) w := by
  simp only [part, Sem.run_bind, run_isAgg hd, Result.andThen, ha, if_true, run_size hs, Sem.run_pure]
  congr 2
  apply Array.toList_inj.1
  simp [List.extract_eq_take_drop]
theorem run_part_one {t : TypeId} {d : TypeDesc} {xs : Array Value} {off : Nat} {v : Value} (hd : P.underlying t = some d) (ha : isAggD d = false) (h : xs.toList[off]? = some v) :
    (part t xs off).run P w = .ok v w := by
  have h' : xs[off]? = some v := by simpa using h
  simp [part, Sem.run_bind, run_isAgg hd, Result.andThen, ha, h']

/-- A part of a value's cells is a value of its type. -/
theorem run_part_fit {t : TypeId} {d : TypeDesc} {m : List (Option IntKind)} {xs : Array Value} {off : Nat} (hs : sizeC P t = some m.length) (hd : P.underlying t = some d) (hk : isAggD d = false → m.length = 1)
    (hf : fitsAll m ((xs.toList.drop off).take m.length) = true) :
    ∃ v, (part t xs off).run P w = .ok v w ∧ Fit d m v ∧ cellsV v = (xs.toList.drop off).take m.length := by
  have hl := fitsAll_length hf
  cases ha : isAggD d with
  | true => exact ⟨_, run_part_agg hd ha hs, by simp only [Fit, ha, if_true]; exact ⟨_, rfl, hf⟩, by simp [cellsV, Value.cells]⟩
  | false =>
    have h1 := hk ha
    obtain ⟨v, hv⟩ := one_of_length (l := (xs.toList.drop off).take m.length) (hl.trans h1)
    have h3 : xs.toList[off]? = some v := by simpa using getElem?_of_chunk hv
    rw [hv] at hf
    refine ⟨v, run_part_one hd ha h3, by simp only [Fit, ha]; exact hf, ?_⟩
    rw [hv]
    cases m with
    | nil => simp at h1
    | cons a m =>
      unfold cellsV
      cases v <;> simp [Value.cells]
      cases a <;> simp [fitsAll, fits] at hf

/-- The shape of a type. -/
theorem shapeC_plain {d : Nat} {t : TypeId} {D : TypeDesc} {m : List (Option IntKind)} (h : shapeC P d t = some m) (hD : P.underlying t = some D) (ha : isAggD D = false) : m.length = 1 := by
  cases d with
  | zero => simp [shapeC] at h
  | succ d => cases D <;> simp [shapeC, hD, isAggD] at h ha <;> simp [← h]

theorem run_equal_shape (d : Nat) : ∀ (t : TypeId) (D : TypeDesc) (sh : List (Option IntKind)) (n : Nat) (x y : Value), P.underlying t = some D → shapeC P d t = some sh → d ≤ n → Fit D sh x → Fit D sh y →
    (Op.equalIn n t x y).run P w = .ok (eqCells (cellsV x) (cellsV y)) w := by
  induction d with
  | zero => intro t D sh n x y _ h; simp [shapeC] at h
  | succ d ih =>
    intro t D sh n x y hD h hn hx hy
    obtain ⟨n, rfl⟩ : ∃ k, n = k + 1 := ⟨n - 1, by omega⟩
    cases D <;> simp only [shapeC, hD] at h
    all_goals first | (cases h; done) | skip
    case bool =>
      obtain rfl := Option.some.inj h
      simp only [Fit, isAggD] at hx hy
      cases x <;> simp [fitsAll, fits] at hx
      cases y <;> simp [fitsAll, fits] at hy
      rw [run_equalIn_bool w n t _ _ hD]
      simp [cellsV, Value.cells, eqCells, eqCell]
    case int k =>
      obtain rfl := Option.some.inj h
      simp only [Fit, isAggD] at hx hy
      cases x <;> simp [fitsAll, fits] at hx
      cases y <;> simp [fitsAll, fits] at hy
      subst hx; subst hy
      rw [run_equalIn_int w n t _ _ _ _ hD]
      simp [cellsV, Value.cells, eqCells, eqCell]
    case array m e =>
      split at h
      · rename_i me hme
        split at h
        · rename_i hsz
          obtain rfl := Option.some.inj h
          simp only [Fit, isAggD, if_true] at hx hy
          obtain ⟨xs, rfl, hx⟩ := hx
          obtain ⟨ys, rfl, hy⟩ := hy
          have hsz' : sizeC P e = some me.length := by simpa using hsz
          obtain ⟨i, hi, his⟩ := info_of_size hsz'
          obtain ⟨De, hDe⟩ : ∃ De, P.underlying e = some De := by
            cases d with
            | zero => simp [shapeC] at hme
            | succ d => cases hu : P.underlying e with
              | none => simp [shapeC, hu] at hme
              | some De => exact ⟨De, rfl⟩
          rw [run_equalIn_array w n xs ys hD hi]
          have hc : P.cellsOf e = me.length := by simp [Program.cellsOf, hi, his]
          rw [hc, List.range_eq_range']
          suffices H : ∀ (k s : Nat) (xs ys : Array Value), fitsAll ((List.replicate k me).flatten) (xs.toList.drop (s * me.length)) = true → fitsAll ((List.replicate k me).flatten) (ys.toList.drop (s * me.length)) = true →
              (Op.eqItems n e me.length xs ys (List.range' s k)).run P w = .ok (eqCells (xs.toList.drop (s * me.length)) (ys.toList.drop (s * me.length))) w by
            have := H m 0 xs ys (by simpa using hx) (by simpa using hy)
            simpa [cellsV, Value.cells] using this
          intro k
          induction k with
          | zero =>
            intro s xs ys hx hy
            have e1 := fitsAll_length hx
            have e2 := fitsAll_length hy
            simp only [List.replicate_zero, List.flatten_nil, List.length_nil, List.length_eq_zero_iff] at e1 e2
            simp [Op.eqItems, e1, e2, eqCells]
          | succ k ihk =>
            intro s xs ys hx hy
            have lx := fitsAll_length hx
            have ly := fitsAll_length hy
            simp only [List.replicate_succ, List.flatten_cons] at hx hy
            obtain ⟨hx1, hx2⟩ := fitsAll_append hx
            obtain ⟨hy1, hy2⟩ := fitsAll_append hy
            rw [List.drop_drop] at hx2 hy2
            have es : s * me.length + me.length = (s + 1) * me.length := by rw [Nat.succ_mul]
            rw [es] at hx2 hy2
            obtain ⟨a, ha1, ha2, ha3⟩ := run_part_fit (w := w) hsz' hDe (shapeC_plain hme hDe) hx1
            obtain ⟨b, hb1, hb2, hb3⟩ := run_part_fit (w := w) hsz' hDe (shapeC_plain hme hDe) hy1
            have hr := ih e De me n a b hDe hme (by omega) ha2 hb2
            have hk := ihk (s + 1) xs ys hx2 hy2
            rw [List.range'_succ]
            simp only [Op.eqItems, Sem.run_bind, ha1, hb1, hr, Result.andThen_ok, Sem.run_ite]
            rw [eqCells_split (m := me.length) (lx.trans ly.symm), List.drop_drop, List.drop_drop, es, ← ha3, ← hb3]
            cases he : eqCells (cellsV a) (cellsV b) <;> simp [hk]
        · cases h
      · cases h
    case struct fs =>
      split at h
      · cases h
      · rename_i hst
        simp only [Fit, isAggD, if_true] at hx hy
        obtain ⟨xs, rfl, hx⟩ := hx
        obtain ⟨ys, rfl, hy⟩ := hy
        have hfo : P.fieldsOf t = fs := by simp [Program.fieldsOf, hD]
        rw [run_equalIn_struct w n t xs ys (by rw [hfo]; exact hD) (by simpa using hst), hfo]
        suffices H : ∀ (l : List Field) (off : Nat) (sh : List (Option IntKind)), shapeFs P (shapeC P d) off l = some sh → fitsAll sh (xs.toList.drop off) = true → fitsAll sh (ys.toList.drop off) = true →
            (Op.eqFields n xs ys l).run P w = .ok (eqCells (xs.toList.drop off) (ys.toList.drop off)) w by
          have := H fs.toList 0 sh h (by simpa using hx) (by simpa using hy)
          simpa [cellsV, Value.cells] using this
        intro l
        induction l with
        | nil =>
          intro off sh h hx hy
          obtain rfl := Option.some.inj h
          have e1 := fitsAll_length hx
          have e2 := fitsAll_length hy
          simp only [List.length_nil, List.length_eq_zero_iff] at e1 e2
          simp [Op.eqFields, e1, e2, eqCells]
        | cons f l ihl =>
          intro off sh h hx hy
          simp only [shapeFs] at h
          split at h
          · rename_i mf hmf
            split at h
            · rename_i hc
              simp only [Bool.and_eq_true, bne_iff_ne, ne_eq, beq_iff_eq] at hc
              obtain ⟨⟨hn1, hoff⟩, hsz'⟩ := hc
              cases hrest : shapeFs P (shapeC P d) (off + mf.length) l with
              | none => simp [hrest] at h
              | some rest =>
                simp only [hrest, Option.map_some, Option.some.injEq] at h
                subst h
                have lx := fitsAll_length hx
                have ly := fitsAll_length hy
                obtain ⟨hx1, hx2⟩ := fitsAll_append hx
                obtain ⟨hy1, hy2⟩ := fitsAll_append hy
                rw [List.drop_drop] at hx2 hy2
                obtain ⟨De, hDe⟩ : ∃ De, P.underlying f.type = some De := by
                  cases d with
                  | zero => simp [shapeC] at hmf
                  | succ d => cases hu : P.underlying f.type with
                    | none => simp [shapeC, hu] at hmf
                    | some De => exact ⟨De, rfl⟩
                obtain ⟨a, ha1, ha2, ha3⟩ := run_part_fit (w := w) hsz' hDe (shapeC_plain hmf hDe) hx1
                obtain ⟨b, hb1, hb2, hb3⟩ := run_part_fit (w := w) hsz' hDe (shapeC_plain hmf hDe) hy1
                have hr := ih f.type De mf n a b hDe hmf (by omega) ha2 hb2
                have hk := ihl (off + mf.length) rest hrest hx2 hy2
                simp only [Op.eqFields, hn1, ne_eq, not_false_eq_true, if_true, hoff, Sem.run_bind, ha1, hb1, hr, Result.andThen_ok, Sem.run_ite]
                rw [eqCells_split (m := mf.length) (lx.trans ly.symm), List.drop_drop, List.drop_drop, ← ha3, ← hb3]
                cases he : eqCells (cellsV a) (cellsV b) <;> simp [hk]
            · cases h
          · cases h

end Go.Ai
