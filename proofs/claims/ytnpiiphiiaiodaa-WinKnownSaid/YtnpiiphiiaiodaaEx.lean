/-
  Running a program's function on values that are known, by computing: the values, and how they stand for the model's. It proves no statement by itself. It holds for every program.
-/
import Derived.Test.YtnpiiphiiaiodaaDr2
namespace Go.Proofs.Ytnpiiphiiaiodaa
open Go.RowKit

/-! ### tables by number -/
inductive T (α : Type) where
  | e
  | n (l : T α) (v : Option α) (r : T α)

def T.get {α : Type} : T α → Nat → Option α
  | .e, _ => none
  | .n l v r, k => match Nat.beq k 0 with
    | true => v
    | false => match Nat.beq (Nat.mod k 2) 1 with
      | true => l.get (Nat.div k 2)
      | false => r.get (Nat.sub (Nat.div k 2) 1)

def T.left {α : Type} : T α → T α
  | .e => .e
  | .n l _ _ => l
def T.right {α : Type} : T α → T α
  | .e => .e
  | .n _ _ r => r
def T.val {α : Type} : T α → Option α
  | .e => none
  | .n _ v _ => v

/-- Number k is laid anew; where the fuel does not last, nothing is known any more. -/
def T.put {α : Type} : Nat → T α → Nat → Option α → T α
  | 0, _, _, _ => .e
  | f + 1, t, k, v => match Nat.beq k 0 with
    | true => .n t.left v t.right
    | false => match Nat.beq (Nat.mod k 2) 1 with
      | true => .n (T.put f t.left (Nat.div k 2) v) t.val t.right
      | false => .n t.left t.val (T.put f t.right (Nat.sub (Nat.div k 2) 1) v)

theorem T.get_zero {α : Type} (t : T α) : t.get 0 = t.val := by cases t <;> rfl
theorem T.get_odd {α : Type} (t : T α) (j : Nat) : t.get (2 * j + 1) = t.left.get j := by
  cases t with
  | e => rfl
  | n l v r =>
    have h1 : Nat.beq (2 * j + 1) 0 = false := Bool.eq_false_iff.2 fun h => by have := Nat.eq_of_beq_eq_true h; omega
    have h2 : Nat.mod (2 * j + 1) 2 = 1 := by show (2 * j + 1) % 2 = 1; omega
    have h3 : Nat.div (2 * j + 1) 2 = j := by show (2 * j + 1) / 2 = j; omega
    simp only [T.get, h1, h2, h3, T.left, Nat.beq_refl]
theorem T.get_even {α : Type} (t : T α) (j : Nat) : t.get (2 * j + 2) = t.right.get j := by
  cases t with
  | e => rfl
  | n l v r =>
    have h1 : Nat.beq (2 * j + 2) 0 = false := Bool.eq_false_iff.2 fun h => by have := Nat.eq_of_beq_eq_true h; omega
    have h2 : Nat.mod (2 * j + 2) 2 = 0 := by show (2 * j + 2) % 2 = 0; omega
    have h3 : Nat.sub (Nat.div (2 * j + 2) 2) 1 = j := by show (2 * j + 2) / 2 - 1 = j; omega
    simp only [T.get, h1, h2, h3, T.right]
    try rfl
theorem nat_cases (k : Nat) : k = 0 ∨ (∃ j, k = 2 * j + 1) ∨ ∃ j, k = 2 * j + 2 := by
  rcases Nat.lt_or_ge k 1 with h | h
  · exact .inl (by omega)
  · by_cases hk : k % 2 = 1
    · exact .inr (.inl ⟨k / 2, by omega⟩)
    · exact .inr (.inr ⟨k / 2 - 1, by omega⟩)
theorem T.put_zero {α : Type} (f : Nat) (t : T α) (v : Option α) : T.put (f + 1) t 0 v = .n t.left v t.right := rfl
theorem T.put_odd {α : Type} (f : Nat) (t : T α) (j : Nat) (v : Option α) : T.put (f + 1) t (2 * j + 1) v = .n (T.put f t.left j v) t.val t.right := by
  have h1 : Nat.beq (2 * j + 1) 0 = false := Bool.eq_false_iff.2 fun h => by have := Nat.eq_of_beq_eq_true h; omega
  have h2 : Nat.mod (2 * j + 1) 2 = 1 := by show (2 * j + 1) % 2 = 1; omega
  have h3 : Nat.div (2 * j + 1) 2 = j := by show (2 * j + 1) / 2 = j; omega
  simp only [T.put, h1, h2, h3]
  try rfl
theorem T.put_even {α : Type} (f : Nat) (t : T α) (j : Nat) (v : Option α) : T.put (f + 1) t (2 * j + 2) v = .n t.left t.val (T.put f t.right j v) := by
  have h1 : Nat.beq (2 * j + 2) 0 = false := Bool.eq_false_iff.2 fun h => by have := Nat.eq_of_beq_eq_true h; omega
  have h2 : Nat.mod (2 * j + 2) 2 = 0 := by show (2 * j + 2) % 2 = 0; omega
  have h3 : Nat.sub (Nat.div (2 * j + 2) 2) 1 = j := by show (2 * j + 2) / 2 - 1 = j; omega
  simp only [T.put, h1, h2, h3]
  try rfl

theorem T.get_put {α : Type} : ∀ (f : Nat) (t : T α) (k j : Nat) (v : Option α) (u : α), (T.put f t k v).get j = some u → (j = k ∧ v = some u) ∨ (j ≠ k ∧ t.get j = some u)
  | 0, _, _, _, _, _, h => by cases h
  | f + 1, t, k, j, v, u, h => by
    rcases nat_cases k with rfl | ⟨k, rfl⟩ | ⟨k, rfl⟩
    · rw [T.put_zero] at h
      rcases nat_cases j with rfl | ⟨j, rfl⟩ | ⟨j, rfl⟩
      · exact .inl ⟨rfl, h⟩
      · rw [T.get_odd] at h ⊢; exact .inr ⟨by omega, h⟩
      · rw [T.get_even] at h ⊢; exact .inr ⟨by omega, h⟩
    · rw [T.put_odd] at h
      rcases nat_cases j with rfl | ⟨j, rfl⟩ | ⟨j, rfl⟩
      · rw [T.get_zero] at h ⊢; exact .inr ⟨by omega, h⟩
      · rw [T.get_odd] at h ⊢
        rcases T.get_put f t.left k j v u h with ⟨rfl, h1⟩ | ⟨h1, h2⟩
        · exact .inl ⟨rfl, h1⟩
        · exact .inr ⟨by omega, h2⟩
      · rw [T.get_even] at h ⊢; exact .inr ⟨by omega, h⟩
    · rw [T.put_even] at h
      rcases nat_cases j with rfl | ⟨j, rfl⟩ | ⟨j, rfl⟩
      · rw [T.get_zero] at h ⊢; exact .inr ⟨by omega, h⟩
      · rw [T.get_odd] at h ⊢; exact .inr ⟨by omega, h⟩
      · rw [T.get_even] at h ⊢
        rcases T.get_put f t.right k j v u h with ⟨rfl, h1⟩ | ⟨h1, h2⟩
        · exact .inl ⟨rfl, h1⟩
        · exact .inr ⟨by omega, h2⟩

def T.set {α : Type} (t : T α) (k : Nat) (v : α) : T α := T.put 40 t k (some v)
theorem T.get_set {α : Type} {t : T α} {k j : Nat} {v u : α} (h : (t.set k v).get j = some u) : (j = k ∧ v = u) ∨ (j ≠ k ∧ t.get j = some u) := by
  rcases T.get_put 40 t k j (some v) u h with ⟨h1, h2⟩ | h1
  · exact .inl ⟨h1, Option.some.inj h2⟩
  · exact .inr h1
attribute [local irreducible] T.put T.set
def T.ofList {α : Type} : List (Nat × α) → T α
  | [] => .e
  | (k, v) :: r => (T.ofList r).set k v
theorem T.get_ofList {α : Type} : ∀ {l : List (Nat × α)} {k : Nat} {v : α}, (T.ofList l).get k = some v → (k, v) ∈ l
  | [], _, _, h => by cases h
  | (k, v) :: r, j, u, h => by
    rw [T.ofList] at h
    rcases T.get_set h with ⟨rfl, rfl⟩ | ⟨_, h2⟩
    · exact List.mem_cons_self
    · exact List.mem_cons_of_mem _ (T.get_ofList h2)
/-- Cells in a row from a place on. -/
def T.row {α : Type} (t : T α) (l : List α) (k : Nat) : T α := match l with
  | [] => t
  | v :: r => (t.set k v).row r (Nat.succ k)
theorem T.get_row {α : Type} : ∀ {l : List α} {t : T α} {k j : Nat} {u : α}, (t.row l k).get j = some u → (k ≤ j ∧ l[j - k]? = some u) ∨ ((j < k ∨ k + l.length ≤ j) ∧ t.get j = some u)
  | [], t, k, j, u, h => .inr ⟨by simp; omega, h⟩
  | v :: r, t, k, j, u, h => by
    rcases T.get_row (l := r) h with ⟨h1, h2⟩ | ⟨h1, h2⟩
    · refine .inl ⟨by simp at h1; omega, ?_⟩
      rw [show j - k = (j - (k + 1)) + 1 by simp at h1; omega]
      exact h2
    · rcases T.get_set h2 with ⟨rfl, rfl⟩ | ⟨h3, h4⟩
      · exact .inl ⟨Nat.le_refl _, by simp⟩
      · refine .inr ⟨?_, h4⟩
        simp only [List.length_cons, Nat.succ_eq_add_one] at h1 ⊢
        omega

/-! ### values -/
inductive V where
  | int (k : IntKind) (n : Int)
  | bool (b : Bool)
  | str (s : ByteArray)
  | ptrN
  | ptr (k off : Nat)
  | slN
  | sl (k off len sz : Nat)
  | fn (f : Go.Fn) (A B : List V)
  | nilf
  | ifc (t : TypeId) (v : V)
  | nili
  | mapN
  | map (k : Nat)
  | agg (l : List V)
  | tup (l : List V)
  | yld (k : Nat)

/-- What each number of the executor's stands for: a block, where it begins there, how many cells there are from there on. -/
abbrev Bs := List (Nat × Nat × Nat)

mutual
inductive RV (bs : Bs) : V → Value → Prop
  | int (k : IntKind) (n : Int) : RV bs (.int k n) (.int k n)
  | bool (b : Bool) : RV bs (.bool b) (.bool b)
  | str (s : ByteArray) : RV bs (.str s) (.string s)
  | ptrN : RV bs .ptrN (.pointer none)
  | ptr {k off b base av : Nat} (h : bs[k]? = some (b, base, av)) : RV bs (.ptr k off) (.pointer (some ⟨b, base + off, none⟩))
  | slN : RV bs .slN (.slice none 0 0)
  | sl {k off len sz b base av off' cap : Nat} (h : bs[k]? = some (b, base, av)) (h1 : len ≤ cap) (h2 : cap ≤ maxLen) (h3 : off' = base + off ∨ (cap = 0 ∧ off' ≤ base + av)) (h4 : off + cap * sz ≤ av) : RV bs (.sl k off len sz) (.slice (some ⟨b, off', none⟩) len cap)
  | fn (f : Go.Fn) {A B : List V} {A' B' : List Value} (hA : RVs bs A A') (hB : RVs bs B B') : RV bs (.fn f A B) (.func f A'.toArray B'.toArray)
  | nilf : RV bs .nilf .nilFunc
  | ifc (t : TypeId) {v : V} {v' : Value} (h : RV bs v v') : RV bs (.ifc t v) (.iface t v')
  | nili : RV bs .nili .nilIface
  | mapN : RV bs .mapN (.map none)
  | map {k b base av : Nat} (h : bs[k]? = some (b, base, av)) : RV bs (.map k) (.map (some b))
  | agg {l : List V} {l' : List Value} (h : RVs bs l l') : RV bs (.agg l) (.agg l'.toArray)
  | tup {l : List V} {l' : List Value} (h : RVs bs l l') : RV bs (.tup l) (.tuple l'.toArray)
  | yld {k b base av : Nat} (h : bs[k]? = some (b, base, av)) : RV bs (.yld k) (.func (.yield b) #[] #[])
inductive RVs (bs : Bs) : List V → List Value → Prop
  | nil : RVs bs [] []
  | cons {v : V} {v' : Value} {l : List V} {l' : List Value} (h : RV bs v v') (hl : RVs bs l l') : RVs bs (v :: l) (v' :: l')
end

theorem RV.sl_inv {bs : Bs} {k off len sz : Nat} {v : Value} (h : RV bs (.sl k off len sz) v) : ∃ (b base av off' cap : Nat), v = .slice (some ⟨b, off', none⟩) len cap ∧ bs[k]? = some (b, base, av) ∧ len ≤ cap ∧ cap ≤ maxLen ∧ (off' = base + off ∨ (cap = 0 ∧ off' ≤ base + av)) ∧ off + cap * sz ≤ av := by
  cases h with
  | sl h h1 h2 h3 h4 => exact ⟨_, _, _, _, _, rfl, h, h1, h2, h3, h4⟩
theorem RV.ptr_inv {bs : Bs} {k off : Nat} {v : Value} (h : RV bs (.ptr k off) v) : ∃ (b base av : Nat), v = .pointer (some ⟨b, base + off, none⟩) ∧ bs[k]? = some (b, base, av) := by
  cases h with
  | ptr h => exact ⟨_, _, _, rfl, h⟩

theorem bs_mono {bs r : Bs} {k : Nat} {x : Nat × Nat × Nat} (h : bs[k]? = some x) : (bs ++ r)[k]? = some x := by
  rw [List.getElem?_append_left (List.getElem?_eq_some_iff.1 h).1]; exact h

mutual
theorem RV.mono {bs : Bs} (r : Bs) : ∀ {v : V} {v' : Value}, RV bs v v' → RV (bs ++ r) v v'
  | _, _, .int k n => .int k n
  | _, _, .bool b => .bool b
  | _, _, .str s => .str s
  | _, _, .ptrN => .ptrN
  | _, _, .ptr h => .ptr (bs_mono h)
  | _, _, .slN => .slN
  | _, _, .sl h h1 h2 h3 h4 => .sl (bs_mono h) h1 h2 h3 h4
  | _, _, .fn f hA hB => .fn f (RVs.mono r hA) (RVs.mono r hB)
  | _, _, .nilf => .nilf
  | _, _, .ifc t h => .ifc t (RV.mono r h)
  | _, _, .nili => .nili
  | _, _, .mapN => .mapN
  | _, _, .map h => .map (bs_mono h)
  | _, _, .agg h => .agg (RVs.mono r h)
  | _, _, .tup h => .tup (RVs.mono r h)
  | _, _, .yld h => .yld (bs_mono h)
theorem RVs.mono {bs : Bs} (r : Bs) : ∀ {l : List V} {l' : List Value}, RVs bs l l' → RVs (bs ++ r) l l'
  | _, _, .nil => .nil
  | _, _, .cons h hl => .cons (RV.mono r h) (RVs.mono r hl)
end

theorem RVs.length {bs : Bs} : ∀ {l : List V} {l' : List Value}, RVs bs l l' → l.length = l'.length
  | _, _, .nil => rfl
  | _, _, .cons _ hl => by simp [hl.length]
theorem RVs.get {bs : Bs} : ∀ {l : List V} {l' : List Value}, RVs bs l l' → ∀ {i : Nat} {v : V}, l[i]? = some v → ∃ v', l'[i]? = some v' ∧ RV bs v v'
  | _, _, .nil, _, _, h => by simp at h
  | _, _, .cons h hl, i, v, hi => by
    cases i with
    | zero => simp at hi; subst hi; exact ⟨_, rfl, h⟩
    | succ i => simp only [List.getElem?_cons_succ] at hi ⊢; exact hl.get hi
theorem RVs.take {bs : Bs} : ∀ {l : List V} {l' : List Value}, RVs bs l l' → ∀ n, RVs bs (l.take n) (l'.take n)
  | _, _, .nil, n => by simp; exact .nil
  | _, _, .cons h hl, n => by
    cases n with
    | zero => exact .nil
    | succ n => exact .cons h (hl.take n)
theorem RVs.drop {bs : Bs} : ∀ {l : List V} {l' : List Value}, RVs bs l l' → ∀ n, RVs bs (l.drop n) (l'.drop n)
  | _, _, .nil, n => by simp; exact .nil
  | _, _, .cons h hl, n => by
    cases n with
    | zero => exact .cons h hl
    | succ n => exact hl.drop n
theorem RVs.append {bs : Bs} : ∀ {l : List V} {l' : List Value}, RVs bs l l' → ∀ {m : List V} {m' : List Value}, RVs bs m m' → RVs bs (l ++ m) (l' ++ m')
  | _, _, .nil, _, _, h => h
  | _, _, .cons h hl, _, _, hm => .cons h (hl.append hm)

/-- Values that fill one cell. -/
def V.one : V → Bool
  | .agg _ => false
  | .tup _ => false
  | _ => true
theorem RV.one {bs : Bs} {v : V} {v' : Value} (h : RV bs v v') (h1 : v.one = true) : v'.oneCell' = true := by
  cases h <;> first | rfl | cases h1
def V.ones : List V → Bool
  | [] => true
  | v :: r => match v.one with
    | true => V.ones r
    | false => false
theorem RVs.ones {bs : Bs} : ∀ {l : List V} {l' : List Value}, RVs bs l l' → V.ones l = true → (l'.all fun v => v.oneCell') = true
  | _, _, .nil, _ => rfl
  | _, _, .cons (v := v) h hl, h1 => by
    simp only [V.ones] at h1
    split at h1
    · rename_i h2
      simp only [List.all_cons, Bool.and_eq_true]
      exact ⟨h.one h2, hl.ones h1⟩
    · cases h1
/-- The cells of a value. -/
def V.cells : V → List V
  | .agg l => l
  | v => [v]
theorem RV.cells {bs : Bs} {v : V} {v' : Value} (h : RV bs v v') : RVs bs v.cells v'.cells.toList := by
  cases h
  case agg h => simpa [V.cells, Value.cells] using h
  all_goals (simp only [V.cells, Value.cells]; refine .cons ?_ .nil)
  case int => exact .int _ _
  case bool => exact .bool _
  case str => exact .str _
  case ptrN => exact .ptrN
  case ptr h => exact .ptr h
  case slN => exact .slN
  case sl h h1 h2 h3 h4 => exact .sl h h1 h2 h3 h4
  case fn hA hB => exact .fn _ hA hB
  case nilf => exact .nilf
  case ifc h => exact .ifc _ h
  case nili => exact .nili
  case mapN => exact .mapN
  case map h => exact .map h
  case tup h => exact .tup h
  case yld h => exact .yld h

/-- A constant of the program's. -/
def V.ofConst1 : Value → Option V
  | .int k n => some (.int k n)
  | .bool b => some (.bool b)
  | .string s => some (.str s)
  | .pointer none => some .ptrN
  | .slice none 0 0 => some .slN
  | .map none => some .mapN
  | .nilFunc => some .nilf
  | .nilIface => some .nili
  | _ => none
def V.ofConsts : List Value → Option (List V)
  | [] => some []
  | v :: r => match V.ofConst1 v, V.ofConsts r with
    | some x, some l => some (x :: l)
    | _, _ => none
def V.ofConst : Value → Option V
  | .agg cs => match V.ofConsts cs.toList with
    | some l => some (.agg l)
    | none => none
  | v => V.ofConst1 v
theorem V.ofConst1_ok {bs : Bs} {v : Value} {x : V} (h : V.ofConst1 v = some x) : RV bs x v := by
  unfold V.ofConst1 at h
  split at h <;> cases h <;> constructor
theorem V.ofConsts_ok {bs : Bs} : ∀ {l : List Value} {x : List V}, V.ofConsts l = some x → RVs bs x l
  | [], _, h => by cases h; exact .nil
  | v :: r, x, h => by
    simp only [V.ofConsts] at h
    split at h
    · rename_i y l h1 h2
      cases h
      exact .cons (V.ofConst1_ok h1) (V.ofConsts_ok h2)
    · cases h
theorem V.ofConst_ok {bs : Bs} {v : Value} {x : V} (h : V.ofConst v = some x) : RV bs x v := by
  unfold V.ofConst at h
  split at h
  · split at h
    · rename_i h1
      cases h
      have := RV.agg (V.ofConsts_ok (bs := bs) h1)
      simpa using this
    · cases h
  · exact V.ofConst1_ok h

/-! ### what is known of the slots, and of memory -/
def CovS (bs : Bs) (s : T V) (σs : List (Nat × Value)) : Prop := ∀ t v, s.get t = some v → ∃ v', look σs t = some v' ∧ RV bs v v'

theorem CovS.put {bs : Bs} {s : T V} {σs : List (Nat × Value)} (h : CovS bs s σs) {d : Nat} {v : V} {v' : Value} (hv : RV bs v v') : CovS bs (s.set d v) ((d, v') :: σs) := fun t u hu => by
  rw [look_cons]
  rcases T.get_set hu with ⟨rfl, rfl⟩ | ⟨h1, h2⟩
  · rw [if_pos rfl]; exact ⟨_, rfl, hv⟩
  · rw [if_neg (Ne.symm h1)]; exact h t u h2
theorem CovS.mono {bs : Bs} (r : Bs) {s : T V} {σs : List (Nat × Value)} (h : CovS bs s σs) : CovS (bs ++ r) s σs := fun t v hv =>
  let ⟨v', h1, h2⟩ := h t v hv; ⟨v', h1, h2.mono r⟩

/-- The body of a range over a function: the slots that it began with, its parameters, its code, the orders of its regions. -/
structure Clo where
  s : T V
  ps : List Nat
  assign : Code
  body : Code
  pt : T (Nat × Plan)
  N : Nat
inductive LSt where
  | ready
  | busy
  | done (c : Code)
def LSt.fits : LSt → Loop → Prop
  | .ready, r => r.state = .ready ∧ r.pending = none
  | .busy, r => r.state = .busy
  | .done c, r => r.state = .done ∧ r.pending = some c

/-- What is known of a block. -/
inductive O where
  | cells (t : T V) (E : TypeId)
  | map (l : List (V × V))
  | loop (c : Clo) (st : LSt)
  | defer
  | gone

/-- A map's entries. -/
def RMap (bs : Bs) : List (V × V) → List MapEntry → Prop
  | [], es => es = []
  | p :: r, es => ∃ e es', es = e :: es' ∧ RV bs p.1 e.key ∧ RV bs p.2 e.val ∧ RMap bs r es'
theorem RMap.mono {bs : Bs} (r : Bs) : ∀ {l : List (V × V)} {es : List MapEntry}, RMap bs l es → RMap (bs ++ r) l es
  | [], _, h => h
  | _ :: _, _, ⟨e, es', h1, h2, h3, h4⟩ => ⟨e, es', h1, h2.mono r, h3.mono r, RMap.mono r h4⟩

def RO (bs : Bs) (base av : Nat) : O → Obj → Prop
  | .cells t E, o => ∃ cs, o = .cells cs E (0, 0) ∧ base + av ≤ cs.size ∧ ∀ i v, t.get i = some v → i < av ∧ ∃ v', cs[base + i]? = some v' ∧ RV bs v v'
  | .map l, o => ∃ es cl, o = .map es cl ∧ RMap bs l es.toList
  | .loop c st, o => ∃ rec σs, o = .loop rec ∧ rec.params = c.ps.toArray ∧ rec.assign = c.assign ∧ rec.body = c.body ∧ c.N ≤ rec.tmps.size ∧ CovS bs c.s σs ∧ (∀ t v, look σs t = some v → rec.tmps.getD t undef = v) ∧ st.fits rec
  | .defer, o => o = .deferred (some [])
  | .gone, _ => True
theorem RO.mono {bs : Bs} (r : Bs) {base av : Nat} {o : O} {o' : Obj} (h : RO bs base av o o') : RO (bs ++ r) base av o o' := by
  cases o with
  | cells t E =>
    obtain ⟨cs, h1, h2, h3⟩ := h
    exact ⟨cs, h1, h2, fun i v hv => let ⟨h4, v', h5, h6⟩ := h3 i v hv; ⟨h4, v', h5, h6.mono r⟩⟩
  | map l =>
    obtain ⟨es, cl, h1, h2⟩ := h
    exact ⟨es, cl, h1, h2.mono r⟩
  | loop c st =>
    obtain ⟨rec, σs, h1, h2, h3, h4, h5, h6, h7⟩ := h
    exact ⟨rec, σs, h1, h2, h3, h4, h5, h6.mono r, h7⟩
  | defer => exact h
  | gone => trivial

/-- Block number k is in the list M, and is as it is known to be. -/
def At (bs : Bs) (M : List (Nat × Obj)) (k : Nat) (o : O) : Prop := ∃ (b base av i : Nat) (o' : Obj), bs[k]? = some (b, base, av) ∧ M[i]? = some (b, o') ∧ RO bs base av o o'

def evX (s : T V) : Operand → Option V
  | .tmp t => s.get t
  | .const v => V.ofConst v
  | .func f => some (.fn (.func f) [] [])
  | .global _ => none
theorem evX_ok {bs : Bs} {s : T V} {σs : List (Nat × Value)} (hs : CovS bs s σs) {x : Operand} {v : V} (h : evX s x = some v) : ∃ v', ev σs x = some v' ∧ RV bs v v' := by
  cases x with
  | tmp t => exact hs t v h
  | const u => exact ⟨u, rfl, V.ofConst_ok h⟩
  | func f => cases h; exact ⟨_, rfl, .fn _ .nil .nil⟩
  | global g => cases h
def evsX (s : T V) : List Operand → Option (List V)
  | [] => some []
  | x :: r => match evX s x, evsX s r with
    | some v, some l => some (v :: l)
    | _, _ => none
theorem evsX_ok {bs : Bs} {s : T V} {σs : List (Nat × Value)} (hs : CovS bs s σs) : ∀ {xs : List Operand} {l : List V}, evsX s xs = some l → ∃ l', evs σs xs = some l' ∧ RVs bs l l'
  | [], _, h => by cases h; exact ⟨[], rfl, .nil⟩
  | x :: r, l, h => by
    simp only [evsX] at h
    split at h
    · rename_i v l h1 h2
      cases h
      obtain ⟨v', h3, h4⟩ := evX_ok hs h1
      obtain ⟨l', h5, h6⟩ := evsX_ok hs h2
      exact ⟨v' :: l', by simp [evs, h3, h5], .cons h4 h6⟩
    · cases h
end Go.Proofs.Ytnpiiphiiaiodaa
