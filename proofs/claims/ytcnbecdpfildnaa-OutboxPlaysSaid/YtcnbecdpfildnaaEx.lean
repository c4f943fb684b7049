/-
  Running a program's function on values that are known, by computing: the values, and how they stand for the model's. It proves no statement by itself. It holds for every program.
-/
import Derived.Test.YtcnbecdpfildnaaPn
namespace Go.Proofs.Ytcnbecdpfildnaa
open Go.RowKit

/-! ### values -/
inductive V where
  | int (k : IntKind) (n : Int)
  | bool (b : Bool)
  | str (s : ByteArray)
  | ptrN
  | ptr (k off : Nat)
  | slN
  | sl (k off len sz : Nat) (ex : Bool)
  | fn (f : Go.Fn) (A B : List V)
  | nilf
  | ifc (t : TypeId) (v : V)
  | nili
  | mapN
  | map (k : Nat)
  | agg (l : List V)
  | tup (l : List V)
  | yld (k : Nat)

/-- What each number of the executor's stands for: a block, where it begins there, how many cells there are from there on. -/
abbrev Bs := List (Nat × Nat × Nat)

mutual
inductive RV (bs : Bs) : V → Value → Prop
  | int (k : IntKind) (n : Int) : RV bs (.int k n) (.int k n)
  | bool (b : Bool) : RV bs (.bool b) (.bool b)
  | str (s : ByteArray) : RV bs (.str s) (.string s)
  | ptrN : RV bs .ptrN (.pointer none)
  | ptr {k off b base av : Nat} (h : bs[k]? = some (b, base, av)) : RV bs (.ptr k off) (.pointer (some ⟨b, base + off, none⟩))
  | slN : RV bs .slN (.slice none 0 0)
  | sl {k off len sz b base av off' cap : Nat} {ex : Bool} (hex : ex = true → cap = len) (h : bs[k]? = some (b, base, av)) (h1 : len ≤ cap) (h2 : cap ≤ maxLen) (h3 : off' = base + off ∨ (cap = 0 ∧ off' ≤ base + av)) (h4 : off + cap * sz ≤ av) : RV bs (.sl k off len sz ex) (.slice (some ⟨b, off', none⟩) len cap)
  | fn (f : Go.Fn) {A B : List V} {A' B' : List Value} (hA : RVs bs A A') (hB : RVs bs B B') : RV bs (.fn f A B) (.func f A'.toArray B'.toArray)
  | nilf : RV bs .nilf .nilFunc
  | ifc (t : TypeId) {v : V} {v' : Value} (h : RV bs v v') : RV bs (.ifc t v) (.iface t v')
  | nili : RV bs .nili .nilIface
  | mapN : RV bs .mapN (.map none)
  | map {k b base av : Nat} (h : bs[k]? = some (b, base, av)) : RV bs (.map k) (.map (some b))
  | agg {l : List V} {l' : List Value} (h : RVs bs l l') : RV bs (.agg l) (.agg l'.toArray)
  | tup {l : List V} {l' : List Value} (h : RVs bs l l') : RV bs (.tup l) (.tuple l'.toArray)
  | yld {k b base av : Nat} (h : bs[k]? = some (b, base, av)) : RV bs (.yld k) (.func (.yield b) #[] #[])
inductive RVs (bs : Bs) : List V → List Value → Prop
  | nil : RVs bs [] []
  | cons {v : V} {v' : Value} {l : List V} {l' : List Value} (h : RV bs v v') (hl : RVs bs l l') : RVs bs (v :: l) (v' :: l')
end

theorem RV.sl_inv {bs : Bs} {k off len sz : Nat} {ex : Bool} {v : Value} (h : RV bs (.sl k off len sz ex) v) : ∃ (b base av off' cap : Nat), v = .slice (some ⟨b, off', none⟩) len cap ∧ bs[k]? = some (b, base, av) ∧ len ≤ cap ∧ cap ≤ maxLen ∧ (off' = base + off ∨ (cap = 0 ∧ off' ≤ base + av)) ∧ off + cap * sz ≤ av := by
  cases h with
  | sl hex h h1 h2 h3 h4 => exact ⟨_, _, _, _, _, rfl, h, h1, h2, h3, h4⟩
theorem RV.sl_ex {bs : Bs} {k off len sz : Nat} {b : Option Addr} {n cap : Nat} (h : RV bs (.sl k off len sz true) (.slice b n cap)) : cap = len := by
  cases h with
  | sl hex h h1 h2 h3 h4 => exact hex rfl
theorem RV.ptr_inv {bs : Bs} {k off : Nat} {v : Value} (h : RV bs (.ptr k off) v) : ∃ (b base av : Nat), v = .pointer (some ⟨b, base + off, none⟩) ∧ bs[k]? = some (b, base, av) := by
  cases h with
  | ptr h => exact ⟨_, _, _, rfl, h⟩

theorem bs_mono {bs r : Bs} {k : Nat} {x : Nat × Nat × Nat} (h : bs[k]? = some x) : (bs ++ r)[k]? = some x := by
  rw [List.getElem?_append_left (List.getElem?_eq_some_iff.1 h).1]; exact h

mutual
theorem RV.mono {bs : Bs} (r : Bs) : ∀ {v : V} {v' : Value}, RV bs v v' → RV (bs ++ r) v v'
  | _, _, .int k n => .int k n
  | _, _, .bool b => .bool b
  | _, _, .str s => .str s
  | _, _, .ptrN => .ptrN
  | _, _, .ptr h => .ptr (bs_mono h)
  | _, _, .slN => .slN
  | _, _, .sl hex h h1 h2 h3 h4 => .sl hex (bs_mono h) h1 h2 h3 h4
  | _, _, .fn f hA hB => .fn f (RVs.mono r hA) (RVs.mono r hB)
  | _, _, .nilf => .nilf
  | _, _, .ifc t h => .ifc t (RV.mono r h)
  | _, _, .nili => .nili
  | _, _, .mapN => .mapN
  | _, _, .map h => .map (bs_mono h)
  | _, _, .agg h => .agg (RVs.mono r h)
  | _, _, .tup h => .tup (RVs.mono r h)
  | _, _, .yld h => .yld (bs_mono h)
theorem RVs.mono {bs : Bs} (r : Bs) : ∀ {l : List V} {l' : List Value}, RVs bs l l' → RVs (bs ++ r) l l'
  | _, _, .nil => .nil
  | _, _, .cons h hl => .cons (RV.mono r h) (RVs.mono r hl)
end

theorem RVs.length {bs : Bs} : ∀ {l : List V} {l' : List Value}, RVs bs l l' → l.length = l'.length
  | _, _, .nil => rfl
  | _, _, .cons _ hl => by simp [hl.length]
theorem RVs.get {bs : Bs} : ∀ {l : List V} {l' : List Value}, RVs bs l l' → ∀ {i : Nat} {v : V}, l[i]? = some v → ∃ v', l'[i]? = some v' ∧ RV bs v v'
  | _, _, .nil, _, _, h => by simp at h
  | _, _, .cons h hl, i, v, hi => by
    cases i with
    | zero => simp at hi; subst hi; exact ⟨_, rfl, h⟩
    | succ i => simp only [List.getElem?_cons_succ] at hi ⊢; exact hl.get hi
theorem RVs.take {bs : Bs} : ∀ {l : List V} {l' : List Value}, RVs bs l l' → ∀ n, RVs bs (l.take n) (l'.take n)
  | _, _, .nil, n => by simp; exact .nil
  | _, _, .cons h hl, n => by
    cases n with
    | zero => exact .nil
    | succ n => exact .cons h (hl.take n)
theorem RVs.drop {bs : Bs} : ∀ {l : List V} {l' : List Value}, RVs bs l l' → ∀ n, RVs bs (l.drop n) (l'.drop n)
  | _, _, .nil, n => by simp; exact .nil
  | _, _, .cons h hl, n => by
    cases n with
    | zero => exact .cons h hl
    | succ n => exact hl.drop n
theorem RVs.append {bs : Bs} : ∀ {l : List V} {l' : List Value}, RVs bs l l' → ∀ {m : List V} {m' : List Value}, RVs bs m m' → RVs bs (l ++ m) (l' ++ m')
  | _, _, .nil, _, _, h => h
  | _, _, .cons h hl, _, _, hm => .cons h (hl.append hm)

/-- Values that fill one cell. -/
def V.one : V → Bool
  | .agg _ => false
  | .tup _ => false
  | _ => true
theorem RV.one {bs : Bs} {v : V} {v' : Value} (h : RV bs v v') (h1 : v.one = true) : v'.oneCell' = true := by
  cases h <;> first | rfl | cases h1
def V.ones : List V → Bool
  | [] => true
  | v :: r => match v.one with
    | true => V.ones r
    | false => false
theorem RVs.ones {bs : Bs} : ∀ {l : List V} {l' : List Value}, RVs bs l l' → V.ones l = true → (l'.all fun v => v.oneCell') = true
  | _, _, .nil, _ => rfl
  | _, _, .cons (v := v) h hl, h1 => by
    simp only [V.ones] at h1
    split at h1
    · rename_i h2
      simp only [List.all_cons, Bool.and_eq_true]
      exact ⟨h.one h2, hl.ones h1⟩
    · cases h1
/-- The cells of a value. -/
def V.cells : V → List V
  | .agg l => l
  | v => [v]
theorem RV.cells {bs : Bs} {v : V} {v' : Value} (h : RV bs v v') : RVs bs v.cells v'.cells.toList := by
  cases h
  case agg h => simpa [V.cells, Value.cells] using h
  all_goals (simp only [V.cells, Value.cells]; refine .cons ?_ .nil)
  case int => exact .int _ _
  case bool => exact .bool _
  case str => exact .str _
  case ptrN => exact .ptrN
  case ptr h => exact .ptr h
  case slN => exact .slN
  case sl hex h h1 h2 h3 h4 => exact .sl hex h h1 h2 h3 h4
  case fn hA hB => exact .fn _ hA hB
  case nilf => exact .nilf
  case ifc h => exact .ifc _ h
  case nili => exact .nili
  case mapN => exact .mapN
  case map h => exact .map h
  case tup h => exact .tup h
  case yld h => exact .yld h

/-- A constant of the program's. -/
def V.ofConst1 : Value → Option V
  | .int k n => some (.int k n)
  | .bool b => some (.bool b)
  | .string s => some (.str s)
  | .pointer none => some .ptrN
  | .slice none 0 0 => some .slN
  | .map none => some .mapN
  | .nilFunc => some .nilf
  | .nilIface => some .nili
  | _ => none
def V.ofConsts : List Value → Option (List V)
  | [] => some []
  | v :: r => match V.ofConst1 v, V.ofConsts r with
    | some x, some l => some (x :: l)
    | _, _ => none
def V.ofConst : Value → Option V
  | .agg cs => match V.ofConsts cs.toList with
    | some l => some (.agg l)
    | none => none
  | v => V.ofConst1 v
theorem V.ofConst1_ok {bs : Bs} {v : Value} {x : V} (h : V.ofConst1 v = some x) : RV bs x v := by
  unfold V.ofConst1 at h
  split at h <;> cases h <;> constructor
theorem V.ofConsts_ok {bs : Bs} : ∀ {l : List Value} {x : List V}, V.ofConsts l = some x → RVs bs x l
  | [], _, h => by cases h; exact .nil
  | v :: r, x, h => by
    simp only [V.ofConsts] at h
    split at h
    · rename_i y l h1 h2
      cases h
      exact .cons (V.ofConst1_ok h1) (V.ofConsts_ok h2)
    · cases h
theorem V.ofConst_ok {bs : Bs} {v : Value} {x : V} (h : V.ofConst v = some x) : RV bs x v := by
  unfold V.ofConst at h
  split at h
  · split at h
    · rename_i h1
      cases h
      have := RV.agg (V.ofConsts_ok (bs := bs) h1)
      simpa using this
    · cases h
  · exact V.ofConst1_ok h

/-! ### slots -/
/-- The slots: what was laid last; what stood there ahead of that, of those that outlive a region (the bits of mask say which). -/
structure S where
  new : List (Nat × V)
  old : List (Nat × V)
  mask : Nat
noncomputable def lookL (l : List (Nat × V)) (k : Nat) : Option V := List.rec (motive := fun _ => Option V) none (fun p _ ih => Bool.rec (motive := fun _ => Option V) ih (some p.2) (Nat.beq p.1 k)) l
def bitX (mask k : Nat) : Bool := Nat.beq (Nat.land (Nat.shiftRight mask k) 1) 1
noncomputable def S.get (s : S) (k : Nat) : Option V := S.rec (motive := fun _ => Option V) (fun n o m => Option.rec (motive := fun _ => Option V) (Bool.rec (motive := fun _ => Option V) none (lookL o k) (bitX m k)) some (lookL n k)) s
noncomputable def S.set (s : S) (k : Nat) (v : V) : S := S.rec (motive := fun _ => S) (fun n o m => ⟨(k, v) :: n, o, m⟩) s
noncomputable def updL (l : List (Nat × V)) (k : Nat) (v : V) : List (Nat × V) := List.rec (motive := fun _ => List (Nat × V)) [(k, v)] (fun p r ih => Bool.rec (motive := fun _ => List (Nat × V)) (p :: ih) ((k, v) :: r) (Nat.beq p.1 k)) l
noncomputable def flushL (mask : Nat) (old new : List (Nat × V)) : List (Nat × V) := List.rec (motive := fun _ => List (Nat × V)) old (fun p _ ih => Bool.rec (motive := fun _ => List (Nat × V)) ih (updL ih p.1 p.2) (bitX mask p.1)) new
noncomputable def S.flush (s : S) : S := S.rec (motive := fun _ => S) (fun n o m => ⟨[], flushL m o n, m⟩) s
def argsL : Nat → List V → List (Nat × V)
  | _, [] => []
  | k, v :: r => (k, v) :: argsL (Nat.succ k) r
def S.ofArgs (vs : List V) (mask : Nat) : S := ⟨[], argsL 0 vs, mask⟩

theorem lookL_cons (p : Nat × V) (r : List (Nat × V)) (k : Nat) : lookL (p :: r) k = if p.1 = k then some p.2 else lookL r k := by
  have e : lookL (p :: r) k = Bool.rec (motive := fun _ => Option V) (lookL r k) (some p.2) (Nat.beq p.1 k) := rfl
  rw [e]
  cases h : Nat.beq p.1 k
  · rw [if_neg (Nat.ne_of_beq_eq_false h)]
  · rw [if_pos (Nat.eq_of_beq_eq_true h)]
theorem S.get_def (s : S) (k : Nat) : s.get k = Option.rec (motive := fun _ => Option V) (Bool.rec (motive := fun _ => Option V) none (lookL s.old k) (bitX s.mask k)) some (lookL s.new k) := by cases s; rfl
theorem S.get_eq (s : S) (k : Nat) : s.get k = match lookL s.new k with
    | some v => some v
    | none => if bitX s.mask k = true then lookL s.old k else none := by
  rw [S.get_def]
  cases lookL s.new k with
  | some v => rfl
  | none => cases bitX s.mask k <;> rfl
theorem S.get_set {s : S} {k j : Nat} {v u : V} (h : (s.set k v).get j = some u) : (j = k ∧ v = u) ∨ (j ≠ k ∧ s.get j = some u) := by
  obtain ⟨n, o, m⟩ := s
  rw [S.get_eq] at h
  simp only [S.set, lookL_cons] at h
  by_cases e : k = j
  · rw [if_pos e] at h
    exact .inl ⟨e.symm, Option.some.inj h⟩
  · rw [if_neg e] at h
    exact .inr ⟨Ne.symm e, by rw [S.get_eq]; exact h⟩
theorem lookL_upd (l : List (Nat × V)) (k : Nat) (v : V) (j : Nat) : lookL (updL l k v) j = if k = j then some v else lookL l j := by
  induction l with
  | nil =>
    have e : updL [] k v = [(k, v)] := rfl
    rw [e, lookL_cons]
  | cons p r ih =>
    have e : updL (p :: r) k v = Bool.rec (motive := fun _ => List (Nat × V)) (p :: updL r k v) ((k, v) :: r) (Nat.beq p.1 k) := rfl
    rw [e]
    cases h : Nat.beq p.1 k
    · have hne := Nat.ne_of_beq_eq_false h
      show lookL (p :: updL r k v) j = _
      rw [lookL_cons, ih, lookL_cons]
      by_cases e1 : k = j
      · subst e1; rw [if_neg hne, if_pos rfl, if_pos rfl]
      · rw [if_neg e1, if_neg e1]
    · have heq := Nat.eq_of_beq_eq_true h
      show lookL ((k, v) :: r) j = _
      rw [lookL_cons, lookL_cons, heq]
      by_cases e1 : k = j
      · rw [if_pos e1, if_pos e1]
      · rw [if_neg e1, if_neg e1, if_neg e1]
theorem look_flush (mask : Nat) (old : List (Nat × V)) (k : Nat) (hk : bitX mask k = true) : ∀ new : List (Nat × V), lookL (flushL mask old new) k = match lookL new k with
    | some v => some v
    | none => lookL old k
  | [] => rfl
  | p :: r => by
    have e : flushL mask old (p :: r) = Bool.rec (motive := fun _ => List (Nat × V)) (flushL mask old r) (updL (flushL mask old r) p.1 p.2) (bitX mask p.1) := rfl
    have ih := look_flush mask old k hk r
    rw [e, lookL_cons]
    cases hb : bitX mask p.1
    · have hne : p.1 ≠ k := fun h => by rw [h, hk] at hb; cases hb
      rw [if_neg hne]; exact ih
    · show lookL (updL (flushL mask old r) p.1 p.2) k = _
      rw [lookL_upd]
      by_cases h : p.1 = k
      · rw [if_pos h, if_pos h]
      · rw [if_neg h, if_neg h]; exact ih
theorem S.get_old {s : S} {k : Nat} (h : lookL s.new k = none) (hb : bitX s.mask k = true) : s.get k = lookL s.old k := by
  rw [S.get_def]; rw [h, hb]
theorem S.get_no {s : S} {k : Nat} (h : lookL s.new k = none) (hb : bitX s.mask k = false) : s.get k = none := by
  rw [S.get_def]; rw [h, hb]
theorem S.get_new {s : S} {k : Nat} {v : V} (h : lookL s.new k = some v) : s.get k = some v := by
  rw [S.get_def]; rw [h]
theorem S.get_flush {s : S} {k : Nat} {v : V} (h : s.flush.get k = some v) : s.get k = some v := by
  obtain ⟨n, o, m⟩ := s
  cases hb : bitX m k with
  | false => rw [S.get_no (s := S.flush ⟨n, o, m⟩) rfl hb] at h; cases h
  | true =>
    rw [S.get_old (s := S.flush ⟨n, o, m⟩) rfl hb] at h
    have h1 : lookL (flushL m o n) k = some v := h
    rw [look_flush _ _ _ hb] at h1
    cases hn : lookL n k with
    | some u => rw [hn] at h1; rw [S.get_new (s := ⟨n, o, m⟩) hn]; exact h1
    | none => rw [hn] at h1; rw [S.get_old (s := ⟨n, o, m⟩) hn hb]; exact h1
theorem look_args : ∀ {vs : List V} {k t : Nat} {v : V}, lookL (argsL k vs) t = some v → k ≤ t ∧ vs[t - k]? = some v
  | [], _, _, _, h => by cases h
  | u :: r, k, t, v, h => by
    rw [argsL, lookL_cons] at h
    by_cases e : k = t
    · rw [if_pos e] at h; subst e; simpa using h
    · rw [if_neg e] at h
      obtain ⟨h1, h2⟩ := look_args h
      have h1' : k + 1 ≤ t := h1
      refine ⟨by omega, ?_⟩
      rw [show t - k = (t - (k + 1)) + 1 by omega]
      simpa using h2
theorem S.get_args {vs : List V} {m t : Nat} {v : V} (h : (S.ofArgs vs m).get t = some v) : vs[t]? = some v := by
  cases hb : bitX m t with
  | false => rw [S.get_no (s := S.ofArgs vs m) rfl hb] at h; cases h
  | true =>
    rw [S.get_old (s := S.ofArgs vs m) rfl hb] at h
    have h1 : lookL (argsL 0 vs) t = some v := h
    have := (look_args h1).2; simpa using this

noncomputable section
/-! ### what is known of the slots, and of memory -/
def CovS (bs : Bs) (s : S) (σs : List (Nat × Value)) : Prop := ∀ t v, s.get t = some v → ∃ v', look σs t = some v' ∧ RV bs v v'

theorem CovS.put {bs : Bs} {s : S} {σs : List (Nat × Value)} (h : CovS bs s σs) {d : Nat} {v : V} {v' : Value} (hv : RV bs v v') : CovS bs (s.set d v) ((d, v') :: σs) := fun t u hu => by
  rw [look_cons]
  rcases S.get_set hu with ⟨rfl, rfl⟩ | ⟨h1, h2⟩
  · rw [if_pos rfl]; exact ⟨_, rfl, hv⟩
  · rw [if_neg (Ne.symm h1)]; exact h t u h2
theorem CovS.mono {bs : Bs} (r : Bs) {s : S} {σs : List (Nat × Value)} (h : CovS bs s σs) : CovS (bs ++ r) s σs := fun t v hv =>
  let ⟨v', h1, h2⟩ := h t v hv; ⟨v', h1, h2.mono r⟩

/-- The body of a range over a function: the slots that it began with, its parameters, its code, the orders of its regions. -/
structure Clo where
  s : S
  ps : List Nat
  assign : Code
  body : Code
  pt : T (Nat × Plan)
  N : Nat
inductive LSt where
  | ready
  | busy
  | done (c : Code)
def LSt.fits : LSt → Loop → Prop
  | .ready, r => r.state = .ready ∧ r.pending = none
  | .busy, r => r.state = .busy
  | .done c, r => r.state = .done ∧ r.pending = some c

/-- What is known of a block. -/
inductive O where
  | cells (t : T V) (E : TypeId)
  | text (t : T V)
  | glob (b0 : Nat) (v : Value)
  | map (l : List (V × V))
  | loop (c : Clo) (st : LSt)
  | defer
  | gone

/-- A map's entries. -/
def RMap (bs : Bs) : List (V × V) → List MapEntry → Prop
  | [], es => es = []
  | p :: r, es => ∃ e es', es = e :: es' ∧ RV bs p.1 e.key ∧ RV bs p.2 e.val ∧ RMap bs r es'
theorem RMap.mono {bs : Bs} (r : Bs) : ∀ {l : List (V × V)} {es : List MapEntry}, RMap bs l es → RMap (bs ++ r) l es
  | [], _, h => h
  | _ :: _, _, ⟨e, es', h1, h2, h3, h4⟩ => ⟨e, es', h1, h2.mono r, h3.mono r, RMap.mono r h4⟩

def RO (bs : Bs) (b base av : Nat) : O → Obj → Prop
  | .cells t E, o => ∃ cs, o = .cells cs E (0, 0) ∧ base + av ≤ cs.size ∧ ∀ i v, t.get i = some v → i < av ∧ ∃ v', cs[base + i]? = some v' ∧ RV bs v v'
  | .text t, o => ∃ cs E fr, o = .cells cs E fr ∧ base + av ≤ cs.size ∧ ∀ i v, t.get i = some v → i < av ∧ ∃ v', cs[base + i]? = some v' ∧ RV bs v v'
  | .map l, o => ∃ es cl, o = .map es cl ∧ RMap bs l es.toList
  | .loop c st, o => ∃ rec σs, o = .loop rec ∧ rec.params = c.ps.toArray ∧ rec.assign = c.assign ∧ rec.body = c.body ∧ c.N ≤ rec.tmps.size ∧ CovS bs c.s σs ∧ (∀ t v, look σs t = some v → rec.tmps.getD t undef = v) ∧ st.fits rec
  | .defer, o => o = .deferred (some [])
  | .glob b0 v, o => b = b0 ∧ ∃ cs E fr, o = .cells cs E fr ∧ cs[0]? = some v
  | .gone, _ => True
theorem RO.mono {bs : Bs} (r : Bs) {b base av : Nat} {o : O} {o' : Obj} (h : RO bs b base av o o') : RO (bs ++ r) b base av o o' := by
  cases o with
  | cells t E =>
    obtain ⟨cs, h1, h2, h3⟩ := h
    exact ⟨cs, h1, h2, fun i v hv => let ⟨h4, v', h5, h6⟩ := h3 i v hv; ⟨h4, v', h5, h6.mono r⟩⟩
  | text t =>
    obtain ⟨cs, E, fr, h1, h2, h3⟩ := h
    exact ⟨cs, E, fr, h1, h2, fun i v hv => let ⟨h4, v', h5, h6⟩ := h3 i v hv; ⟨h4, v', h5, h6.mono r⟩⟩
  | map l =>
    obtain ⟨es, cl, h1, h2⟩ := h
    exact ⟨es, cl, h1, h2.mono r⟩
  | loop c st =>
    obtain ⟨rec, σs, h1, h2, h3, h4, h5, h6, h7⟩ := h
    exact ⟨rec, σs, h1, h2, h3, h4, h5, h6.mono r, h7⟩
  | defer => exact h
  | glob b0 v => exact h
  | gone => trivial

/-- The cells of a block that are known. -/
def rdX : Option O → Option (T V)
  | some (.cells t _) => some t
  | some (.text t) => some t
  | _ => none
theorem rdX_ok {bs : Bs} {b base av : Nat} {x : Option O} {t : T V} (h : rdX x = some t) : ∃ o, x = some o ∧ ∀ {o' : Obj}, RO bs b base av o o' → ∃ cs E fr, o' = .cells cs E fr ∧ base + av ≤ cs.size ∧ ∀ i v, t.get i = some v → i < av ∧ ∃ v', cs[base + i]? = some v' ∧ RV bs v v' := by
  unfold rdX at h
  split at h
  · cases h; exact ⟨_, rfl, fun ⟨cs, h1, h2, h3⟩ => ⟨cs, _, _, h1, h2, h3⟩⟩
  · cases h; exact ⟨_, rfl, fun h => h⟩
  · cases h
/-- Block number k is in the list M, and is as it is known to be. -/
def At (bs : Bs) (M : List (Nat × Obj)) (k : Nat) (o : O) : Prop := ∃ (b base av i : Nat) (o' : Obj), bs[k]? = some (b, base, av) ∧ M[i]? = some (b, o') ∧ RO bs b base av o o'

def evX (s : S) : Operand → Option V
  | .tmp t => s.get t
  | .const v => V.ofConst v
  | .func f => some (.fn (.func f) [] [])
  | .global _ => none
theorem evX_ok {bs : Bs} {s : S} {σs : List (Nat × Value)} (hs : CovS bs s σs) {x : Operand} {v : V} (h : evX s x = some v) : ∃ v', ev σs x = some v' ∧ RV bs v v' := by
  cases x with
  | tmp t => exact hs t v h
  | const u => exact ⟨u, rfl, V.ofConst_ok h⟩
  | func f => cases h; exact ⟨_, rfl, .fn _ .nil .nil⟩
  | global g => cases h
def evsX (s : S) : List Operand → Option (List V)
  | [] => some []
  | x :: r => match evX s x, evsX s r with
    | some v, some l => some (v :: l)
    | _, _ => none
theorem evsX_ok {bs : Bs} {s : S} {σs : List (Nat × Value)} (hs : CovS bs s σs) : ∀ {xs : List Operand} {l : List V}, evsX s xs = some l → ∃ l', evs σs xs = some l' ∧ RVs bs l l'
  | [], _, h => by cases h; exact ⟨[], rfl, .nil⟩
  | x :: r, l, h => by
    simp only [evsX] at h
    split at h
    · rename_i v l h1 h2
      cases h
      obtain ⟨v', h3, h4⟩ := evX_ok hs h1
      obtain ⟨l', h5, h6⟩ := evsX_ok hs h2
      exact ⟨v' :: l', by simp [evs, h3, h5], .cons h4 h6⟩
    · cases h
end
end Go.Proofs.Ytcnbecdpfildnaa
