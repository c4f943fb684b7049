/-
  A region that draws the order of its operations, again: what comes ahead of all that turn memory may read all of it. It proves no statement by itself. It holds for every program.
-/
import Derived.Test.YtnpiiphiiaiodaaGo
namespace Go.Proofs.Ytnpiiphiiaiodaa
open Go.RowKit

/-! ### tables by number -/
inductive T (α : Type) where
  | e
  | n (l : T α) (v : Option α) (r : T α)

def T.get {α : Type} : T α → Nat → Option α
  | .e, _ => none
  | .n l v r, k => match Nat.beq k 0 with
    | true => v
    | false => match Nat.beq (Nat.mod k 2) 1 with
      | true => l.get (Nat.div k 2)
      | false => r.get (Nat.sub (Nat.div k 2) 1)

def T.left {α : Type} : T α → T α
  | .e => .e
  | .n l _ _ => l
def T.right {α : Type} : T α → T α
  | .e => .e
  | .n _ _ r => r
def T.val {α : Type} : T α → Option α
  | .e => none
  | .n _ v _ => v

/-- Number k is laid anew; where the fuel does not last, nothing is known any more. -/
def T.put {α : Type} : Nat → T α → Nat → Option α → T α
  | 0, _, _, _ => .e
  | f + 1, t, k, v => match Nat.beq k 0 with
    | true => .n t.left v t.right
    | false => match Nat.beq (Nat.mod k 2) 1 with
      | true => .n (T.put f t.left (Nat.div k 2) v) t.val t.right
      | false => .n t.left t.val (T.put f t.right (Nat.sub (Nat.div k 2) 1) v)

theorem T.get_zero {α : Type} (t : T α) : t.get 0 = t.val := by cases t <;> rfl
theorem T.get_odd {α : Type} (t : T α) (j : Nat) : t.get (2 * j + 1) = t.left.get j := by
  cases t with
  | e => rfl
  | n l v r =>
    have h1 : Nat.beq (2 * j + 1) 0 = false := Bool.eq_false_iff.2 fun h => by have := Nat.eq_of_beq_eq_true h; omega
    have h2 : Nat.mod (2 * j + 1) 2 = 1 := by show (2 * j + 1) % 2 = 1; omega
    have h3 : Nat.div (2 * j + 1) 2 = j := by show (2 * j + 1) / 2 = j; omega
    simp only [T.get, h1, h2, h3, T.left, Nat.beq_refl]
theorem T.get_even {α : Type} (t : T α) (j : Nat) : t.get (2 * j + 2) = t.right.get j := by
  cases t with
  | e => rfl
  | n l v r =>
    have h1 : Nat.beq (2 * j + 2) 0 = false := Bool.eq_false_iff.2 fun h => by have := Nat.eq_of_beq_eq_true h; omega
    have h2 : Nat.mod (2 * j + 2) 2 = 0 := by show (2 * j + 2) % 2 = 0; omega
    have h3 : Nat.sub (Nat.div (2 * j + 2) 2) 1 = j := by show (2 * j + 2) / 2 - 1 = j; omega
    simp only [T.get, h1, h2, h3, T.right]
    try rfl
theorem nat_cases (k : Nat) : k = 0 ∨ (∃ j, k = 2 * j + 1) ∨ ∃ j, k = 2 * j + 2 := by
  rcases Nat.lt_or_ge k 1 with h | h
  · exact .inl (by omega)
  · by_cases hk : k % 2 = 1
    · exact .inr (.inl ⟨k / 2, by omega⟩)
    · exact .inr (.inr ⟨k / 2 - 1, by omega⟩)
theorem T.put_zero {α : Type} (f : Nat) (t : T α) (v : Option α) : T.put (f + 1) t 0 v = .n t.left v t.right := rfl
theorem T.put_odd {α : Type} (f : Nat) (t : T α) (j : Nat) (v : Option α) : T.put (f + 1) t (2 * j + 1) v = .n (T.put f t.left j v) t.val t.right := by
  have h1 : Nat.beq (2 * j + 1) 0 = false := Bool.eq_false_iff.2 fun h => by have := Nat.eq_of_beq_eq_true h; omega
  have h2 : Nat.mod (2 * j + 1) 2 = 1 := by show (2 * j + 1) % 2 = 1; omega
  have h3 : Nat.div (2 * j + 1) 2 = j := by show (2 * j + 1) / 2 = j; omega
  simp only [T.put, h1, h2, h3]
  try rfl
theorem T.put_even {α : Type} (f : Nat) (t : T α) (j : Nat) (v : Option α) : T.put (f + 1) t (2 * j + 2) v = .n t.left t.val (T.put f t.right j v) := by
  have h1 : Nat.beq (2 * j + 2) 0 = false := Bool.eq_false_iff.2 fun h => by have := Nat.eq_of_beq_eq_true h; omega
  have h2 : Nat.mod (2 * j + 2) 2 = 0 := by show (2 * j + 2) % 2 = 0; omega
  have h3 : Nat.sub (Nat.div (2 * j + 2) 2) 1 = j := by show (2 * j + 2) / 2 - 1 = j; omega
  simp only [T.put, h1, h2, h3]
  try rfl

theorem T.get_put {α : Type} : ∀ (f : Nat) (t : T α) (k j : Nat) (v : Option α) (u : α), (T.put f t k v).get j = some u → (j = k ∧ v = some u) ∨ (j ≠ k ∧ t.get j = some u)
  | 0, _, _, _, _, _, h => by cases h
  | f + 1, t, k, j, v, u, h => by
    rcases nat_cases k with rfl | ⟨k, rfl⟩ | ⟨k, rfl⟩
    · rw [T.put_zero] at h
      rcases nat_cases j with rfl | ⟨j, rfl⟩ | ⟨j, rfl⟩
      · exact .inl ⟨rfl, h⟩
      · rw [T.get_odd] at h ⊢; exact .inr ⟨by omega, h⟩
      · rw [T.get_even] at h ⊢; exact .inr ⟨by omega, h⟩
    · rw [T.put_odd] at h
      rcases nat_cases j with rfl | ⟨j, rfl⟩ | ⟨j, rfl⟩
      · rw [T.get_zero] at h ⊢; exact .inr ⟨by omega, h⟩
      · rw [T.get_odd] at h ⊢
        rcases T.get_put f t.left k j v u h with ⟨rfl, h1⟩ | ⟨h1, h2⟩
        · exact .inl ⟨rfl, h1⟩
        · exact .inr ⟨by omega, h2⟩
      · rw [T.get_even] at h ⊢; exact .inr ⟨by omega, h⟩
    · rw [T.put_even] at h
      rcases nat_cases j with rfl | ⟨j, rfl⟩ | ⟨j, rfl⟩
      · rw [T.get_zero] at h ⊢; exact .inr ⟨by omega, h⟩
      · rw [T.get_odd] at h ⊢; exact .inr ⟨by omega, h⟩
      · rw [T.get_even] at h ⊢
        rcases T.get_put f t.right k j v u h with ⟨rfl, h1⟩ | ⟨h1, h2⟩
        · exact .inl ⟨rfl, h1⟩
        · exact .inr ⟨by omega, h2⟩

def T.set {α : Type} (t : T α) (k : Nat) (v : α) : T α := T.put 40 t k (some v)
theorem T.get_set {α : Type} {t : T α} {k j : Nat} {v u : α} (h : (t.set k v).get j = some u) : (j = k ∧ v = u) ∨ (j ≠ k ∧ t.get j = some u) := by
  rcases T.get_put 40 t k j (some v) u h with ⟨h1, h2⟩ | h1
  · exact .inl ⟨h1, Option.some.inj h2⟩
  · exact .inr h1
attribute [local irreducible] T.put T.set
def T.ofList {α : Type} : List (Nat × α) → T α
  | [] => .e
  | (k, v) :: r => (T.ofList r).set k v
theorem T.get_ofList {α : Type} : ∀ {l : List (Nat × α)} {k : Nat} {v : α}, (T.ofList l).get k = some v → (k, v) ∈ l
  | [], _, _, h => by cases h
  | (k, v) :: r, j, u, h => by
    rw [T.ofList] at h
    rcases T.get_set h with ⟨rfl, rfl⟩ | ⟨_, h2⟩
    · exact List.mem_cons_self
    · exact List.mem_cons_of_mem _ (T.get_ofList h2)
/-- Cells in a row from a place on. -/
def T.row {α : Type} (t : T α) (l : List α) (k : Nat) : T α := match l with
  | [] => t
  | v :: r => (t.set k v).row r (Nat.succ k)
theorem T.get_row {α : Type} : ∀ {l : List α} {t : T α} {k j : Nat} {u : α}, (t.row l k).get j = some u → (k ≤ j ∧ l[j - k]? = some u) ∨ ((j < k ∨ k + l.length ≤ j) ∧ t.get j = some u)
  | [], t, k, j, u, h => .inr ⟨by simp; omega, h⟩
  | v :: r, t, k, j, u, h => by
    rcases T.get_row (l := r) h with ⟨h1, h2⟩ | ⟨h1, h2⟩
    · refine .inl ⟨by simp at h1; omega, ?_⟩
      rw [show j - k = (j - (k + 1)) + 1 by simp at h1; omega]
      exact h2
    · rcases T.get_set h2 with ⟨rfl, rfl⟩ | ⟨h3, h4⟩
      · exact .inl ⟨Nat.le_refl _, by simp⟩
      · refine .inr ⟨?_, h4⟩
        simp only [List.length_cons, Nat.succ_eq_add_one] at h1 ⊢
        omega

/-! ### which operations wait for which -/
inductive Reach (ops : List Oper) : Nat → Nat → Prop
  | one {j : Nat} {o : Oper} {e : Edge} (hj : ops[j]? = some o) (he : e ∈ o.after) (hb : Region.binds .any e = true) : Reach ops j e.on
  | more {j k : Nat} {o : Oper} {e : Edge} (hj : ops[j]? = some o) (he : e ∈ o.after) (hb : Region.binds .any e = true) (h : Reach ops e.on k) : Reach ops j k
def orE (M : T Nat) : List Edge → Nat
  | [] => 0
  | e :: r => match Region.binds .any e with
    | true => Nat.lor (Nat.lor (Nat.shiftLeft 1 e.on) ((M.get e.on).getD 0)) (orE M r)
    | false => orE M r
def maskL : List Oper → Nat → T Nat → T Nat
  | [], _, M => M
  | o :: r, j, M => maskL r (Nat.succ j) (M.set j (orE M o.after.toList))
theorem orE_ok {ops : List Oper} {M : T Nat} (hM : ∀ j n, M.get j = some n → ∀ k, n.testBit k = true → Reach ops j k) {j : Nat} {o : Oper} (hj : ops[j]? = some o) : ∀ (l : List Edge), (∀ e ∈ l, e ∈ o.after) → ∀ k, (orE M l).testBit k = true → Reach ops j k
  | [], _, k, h => by simp [orE] at h
  | e :: r, hl, k, h => by
    have hr := orE_ok hM hj r (fun e he => hl e (List.mem_cons_of_mem _ he)) k
    simp only [orE] at h
    split at h
    · rename_i hb
      have h : (((1 <<< e.on) ||| ((M.get e.on).getD 0)) ||| orE M r).testBit k = true := h
      rw [Nat.testBit_or, Nat.testBit_or] at h
      simp only [Bool.or_eq_true] at h
      rcases h with (h | h) | h
      · have : k = e.on := by
          rw [Nat.testBit_shiftLeft] at h
          simp only [Bool.and_eq_true, decide_eq_true_eq] at h
          have h2 := h.2
          rcases Nat.lt_or_ge e.on k with hl | hl
          · obtain ⟨q, hq⟩ : ∃ q, k - e.on = q + 1 := ⟨k - e.on - 1, by omega⟩
            rw [hq] at h2
            simp [Nat.testBit_succ] at h2
          · omega
        subst this
        exact .one hj (hl e List.mem_cons_self) hb
      · cases hg : M.get e.on with
        | none => rw [hg] at h; simp at h
        | some n => rw [hg] at h; exact .more hj (hl e List.mem_cons_self) hb (hM _ _ hg k h)
      · exact hr h
    · exact hr h
theorem maskL_ok {ops : List Oper} : ∀ (l : List Oper) (j : Nat) (M : T Nat), (∀ i o, l[i]? = some o → ops[j + i]? = some o) → (∀ j n, M.get j = some n → ∀ k, n.testBit k = true → Reach ops j k) → ∀ q n, (maskL l j M).get q = some n → ∀ k, n.testBit k = true → Reach ops q k
  | [], _, _, _, hM, q, n, h => hM q n h
  | o :: r, j, M, hl, hM, q, n, h => by
    refine maskL_ok r (Nat.succ j) _ (fun i o' h' => ?_) (fun j' n' h' k hk => ?_) q n h
    · have := hl (i + 1) o' (by simpa using h')
      rwa [show Nat.succ j + i = j + (i + 1) by omega]
    · rcases T.get_set h' with ⟨rfl, rfl⟩ | ⟨_, h''⟩
      · exact orE_ok hM (hl 0 o rfl) _ (fun e he => by simpa using he) k hk
      · exact hM _ _ h'' k hk
/-- Each operation from number m on waits for all of the first m, maybe through others. -/
def lateT (ops : List Oper) (m : Nat) : Bool := lateL (maskL ops 0 .e) (Nat.pow 2 m) m (Nat.sub ops.length m)
where lateL (M : T Nat) (p : Nat) : Nat → Nat → Bool
  | _, 0 => true
  | j, n + 1 => match M.get j with
    | some q => match Nat.beq (Nat.mod q p) (Nat.sub p 1) with
      | true => lateL M p (Nat.succ j) n
      | false => false
    | none => false
theorem lateT_ok {ops : List Oper} {m : Nat} (h : lateT ops m = true) {j k : Nat} (hj : j < ops.length) (hm : m ≤ j) (hk : k < m) : Reach ops j k := by
  have hM := maskL_ok (ops := ops) ops 0 .e (fun i o h => by simpa using h) (fun j n h => by cases h)
  have gen : ∀ (n i : Nat), lateT.lateL (maskL ops 0 .e) (Nat.pow 2 m) i n = true → i ≤ j → j < i + n → Reach ops j k := by
    intro n
    induction n with
    | zero => intro i _ h1 h2; omega
    | succ n ih =>
      intro i h h1 h2
      simp only [lateT.lateL] at h
      split at h
      · rename_i q hq
        split at h
        · rename_i hb
          by_cases e : i = j
          · subst e
            refine hM i q hq k ?_
            have hb := Nat.eq_of_beq_eq_true hb
            have hb : q % 2 ^ m = 2 ^ m - 1 := hb
            have h3 : (q % 2 ^ m).testBit k = true := by rw [hb, Nat.testBit_two_pow_sub_one]; simpa using hk
            rw [Nat.testBit_mod_two_pow] at h3
            simp only [Bool.and_eq_true] at h3
            exact h3.2
          · exact ih (i + 1) h (by omega) (by omega)
        · cases h
      · cases h
  exact gen _ m h hm (by have : Nat.sub ops.length m = ops.length - m := rfl; omega)

section
variable {c : Cx} {ops : Array Oper}
/-- What is done, and what that waited for. -/
def Closed (ops : Array Oper) (listed : Array Bool) : Prop := ∀ j o, ops[j]? = some o → listed.getD j false = true → ∀ e ∈ o.after, Region.binds .any e = true → listed.getD e.on false = true
theorem Closed.reach {listed : Array Bool} (hc : Closed ops listed) {j k : Nat} (h : Reach ops.toList j k) : (∀ o, ops[j]? = some o → ∀ e ∈ o.after, Region.binds .any e = true → listed.getD e.on false = true) → listed.getD k false = true := by
  induction h with
  | one hj he hb => intro hall; exact hall _ (by simpa using hj) _ he hb
  | more hj he hb h ih =>
    intro hall
    have h1 := hall _ (by simpa using hj) _ he hb
    exact ih fun o ho => hc _ o ho h1
theorem Closed.set {listed : Array Bool} (hc : Closed ops listed) {j : Nat} (hj : j ∈ Region.ready .any ops listed) : Closed ops (listed.setIfInBounds j true) := by
  obtain ⟨hun, oj, hoj, hall⟩ := mem_ready.1 hj
  have mono : ∀ k, listed.getD k false = true → (listed.setIfInBounds j true).getD k false = true := fun k hk => by
    by_cases e : j = k
    · subst e
      rcases Nat.lt_or_ge j listed.size with h' | h'
      · simp [h']
      · simp [Array.getElem?_eq_none h'] at hk
    · simpa [Array.getElem?_setIfInBounds_ne e] using hk
  intro k o ho hk e he hb
  by_cases hjk : j = k
  · subst hjk
    rw [hoj] at ho; cases ho
    exact mono _ (hall e he hb)
  · refine mono _ (hc k o ho ?_ e he hb)
    simpa [Array.getElem?_setIfInBounds_ne hjk] using hk
theorem ready_reach {listed : Array Bool} (hc : Closed ops listed) {i j : Nat} (hi : i ∈ Region.ready .any ops listed) (hj : j ∈ Region.ready .any ops listed) (h : Reach ops.toList j i) : False := by
  obtain ⟨_, oj, hoj, hall⟩ := mem_ready.1 hj
  have h1 := hc.reach h fun o ho e he hb => by rw [hoj] at ho; cases ho; exact hall e he hb
  have h0 := (mem_ready.1 hi).1
  rcases Nat.lt_or_ge i listed.size with h' | h'
  · simp [h'] at h0 h1; rw [h0] at h1; cases h1
  · simp [Array.getElem?_eq_none h'] at h1

/-- None of these has been done. -/
def Clean (ms : List Nat) (listed : Array Bool) : Prop := ∀ j ∈ ms, listed.getD j false = false

theorem Clean.back {ms : List Nat} {listed : Array Bool} {i : Nat} (h : Clean ms (listed.setIfInBounds i true)) : Clean ms listed := fun j hj => by
  have := h j hj
  by_cases e : i = j
  · subst e
    rcases Nat.lt_or_ge i listed.size with h' | h'
    · simp [h'] at this
    · simp [Array.getElem?_eq_none h']
  · simpa [Array.getElem?_setIfInBounds_ne e] using this
theorem Clean.set {ms : List Nat} {listed : Array Bool} {i : Nat} (h : Clean ms listed) (hi : i ∉ ms) : Clean ms (listed.setIfInBounds i true) := fun j hj => by
  have hne : i ≠ j := fun e => hi (e ▸ hj)
  have := h j hj
  simpa [Array.getElem?_setIfInBounds_ne hne] using this

def AnyK (c : Cx) (ops : Array Oper) (K : Exit → St → Prop) (Ls L0 : List (Nat × Obj)) (m : Nat) (ms : List Nat) : Nat → Array Bool → Act → World → Prop
  | 0, listed, a, w => Region.ready .any ops listed = [] ∧ liftO c K .normal a w
  | fuel + 1, listed, a, w =>
    (Region.ready .any ops listed = [] → liftO c K .normal a w) ∧
    ∀ i ∈ Region.ready .any ops listed, wpOpIn (Fw c.r) c.n c.P ops (liftO c K) i (fun a' w' => ((i < m → Mem c.g Ls w') ∧ (Clean ms (listed.setIfInBounds i true) → Mem c.g L0 w')) ∧ AnyK c ops K Ls L0 m ms fuel (listed.setIfInBounds i true) a' w') a w

theorem AnyK.any {K : Exit → St → Prop} {Ls L0 : List (Nat × Obj)} {m : Nat} {ms : List Nat} : ∀ (fuel : Nat) (listed : Array Bool) (a : Act) (w : World), AnyK c ops K Ls L0 m ms fuel listed a w → wpAnyIn (Fw c.r) c.n c.P .any ops (liftO c K) fuel listed a w
  | 0, _, _, _, h => h
  | fuel + 1, _, _, _, h => ⟨h.1, fun i hi => wpOpIn_mono (fun a' w' h' => AnyK.any fuel _ a' w' h'.2) (h.2 i hi)⟩

/-- Number i comes ahead of all of these that are not late. -/
def aheadOk (ops : Array Oper) (ms : List Nat) (m i : Nat) : Bool := ms.all fun j => match Nat.ble m j with
  | true => true
  | false => match ops[j]? with
    | some o => o.after.any fun e => Region.binds .any e && e.on == i
    | none => true
theorem aheadOk_spec {ms : List Nat} {m i : Nat} (h : aheadOk ops ms m i = true) {j : Nat} {o : Oper} (hj : ops[j]? = some o) (hm : j ∈ ms) (hjm : j < m) : ∃ e ∈ o.after, Region.binds .any e = true ∧ e.on = i := by
  have h1 := List.all_eq_true.1 h j hm
  have hb : Nat.ble m j = false := Bool.eq_false_iff.2 fun h => by have := Nat.le_of_ble_eq_true h; omega
  simp only [hb, hj] at h1
  rw [← Array.any_toList, List.any_eq_true] at h1
  obtain ⟨e, he, h2⟩ := h1
  simp only [Bool.and_eq_true, beq_iff_eq] at h2
  exact ⟨e, by simpa using he, h2.1, h2.2⟩

theorem ready_un {listed : Array Bool} {i : Nat} (hr : i ∈ Region.ready .any ops listed) {o : Oper} {e : Edge} (he : e ∈ o.after) (hb : Region.binds .any e = true) (heq : e.on = i) (hall : ∀ e ∈ o.after, Region.binds .any e = true → listed.getD e.on false = true) : False := by
  have h1 := hall e he hb
  have h0 := (mem_ready.1 hr).1
  rw [heq] at h1
  rcases Nat.lt_or_ge i listed.size with h' | h'
  · simp [h'] at h0 h1; rw [h0] at h1; cases h1
  · simp [Array.getElem?_eq_none h'] at h1

/-- A calm one may be done first: it reads X, which is what is left alone, or, where it comes ahead of all that turn memory, all there is. -/
theorem AnyK.first {K : Exit → St → Prop} {Ls L0 X : List (Nat × Obj)} {m : Nat} {ms : List Nat} {i : Nat} {oi : Oper} {v : Value} (hi : ops[i]? = some oi) (hsel : ∀ (j : Nat) (o : Oper) cs b, ops[j]? = some o → o.op ≠ .select cs b) (him : i < m) (hlate : lateT ops.toList m = true) (hims : i ∉ ms)
    (hX : X = Ls ∨ X = L0 ∧ aheadOk ops ms m i = true) (hsub : ∀ w, Mem c.g L0 w → Mem c.g Ls w) :
    ∀ (fuel : Nat) (listed : Array Bool) (a : Act) (w : World),
      (∀ j oj, ops[j]? = some oj → j ≠ i → listed.getD j true = false → (∀ e ∈ oj.after, Region.binds .any e = true → e.on ≠ i) → oi.apart ops oj = true) →
      Closed ops listed → i ∈ Region.ready .any ops listed → Calm c ops X oi v a → Mem c.g Ls w → (X = Ls ∨ Clean ms listed) → (Clean ms listed → Mem c.g L0 w) →
      AnyK c ops K Ls L0 m ms fuel (listed.setIfInBounds i true) (a.put oi.dst v) w → AnyK c ops K Ls L0 m ms (fuel + 1) listed a w := by
  intro fuel
  have memX : ∀ {listed : Array Bool} {w : World}, Mem c.g Ls w → (X = Ls ∨ Clean ms listed) → (Clean ms listed → Mem c.g L0 w) → Mem c.g X w := fun {listed w} hS hcl hC => by
    rcases hX with rfl | ⟨rfl, _⟩
    · exact hS
    · rcases hcl with rfl | hcl
      · exact hS
      · exact hC hcl
  induction fuel with
  | zero =>
    intro listed a w _ hclo hr hy hS hcl hC H
    refine ⟨fun h => (by rw [h] at hr; cases hr), fun j hj => ?_⟩
    by_cases hji : j = i
    · subst hji; exact hy.op hi (memX hS hcl hC) ⟨⟨fun _ => hS, fun h => hC h.back⟩, H⟩
    · have := ready_mono hj hji
      rw [H.1] at this
      cases this
  | succ fuel ih =>
    intro listed a w hfree hclo hr hy hS hcl hC H
    refine ⟨fun h => (by rw [h] at hr; cases hr), fun j hj => ?_⟩
    by_cases hji : j = i
    · subst hji; exact hy.op hi (memX hS hcl hC) ⟨⟨fun _ => hS, fun h => hC h.back⟩, H⟩
    · have h1 := H.2 j (ready_mono hj hji)
      obtain ⟨hjun, oj, hoj, hall⟩ := mem_ready.1 hj
      have hnot : ∀ e ∈ oj.after, Region.binds .any e = true → e.on ≠ i := fun e he hb heq => ready_un hr he hb heq hall
      have hjm : j < m := by
        rcases Nat.lt_or_ge j m with h' | h'
        · exact h'
        · exact (ready_reach hclo hr hj (lateT_ok hlate (by simpa using (Array.getElem?_eq_some_iff.1 hoj).1) h' him)).elim
      have hcl' : X = Ls ∨ Clean ms (listed.setIfInBounds j true) := by
        rcases hX with h | ⟨_, hah⟩
        · exact .inl h
        · rcases hcl with h | hcl
          · exact .inl h
          · refine .inr (hcl.set fun hjms => ?_)
            obtain ⟨e, he, hb, heq⟩ := aheadOk_spec hah hoj hjms hjm
            exact hnot e he hb heq
      have h2 := wpOpIn_calm hoj (hfree j oj hoj hji hjun hnot) (fun cs b => hsel i oi cs b hi) (fun cs b => hsel j oj cs b hoj) hy h1
      have hfree' : ∀ k ok, ops[k]? = some ok → k ≠ i → (listed.setIfInBounds j true).getD k true = false →
          (∀ e ∈ ok.after, Region.binds .any e = true → e.on ≠ i) → oi.apart ops ok = true := fun k ok hk hki hun hno => by
        refine hfree k ok hk hki ?_ hno
        by_cases hjk : j = k
        · subst hjk; exact hjun
        · rw [getD_set_ne true hjk] at hun; exact hun
      refine wpOpIn_mono (fun a' w' h3 => ?_) h2
      have hC' : Clean ms (listed.setIfInBounds j true) → Mem c.g L0 w' := fun h => h3.2.1.2 (by
        rw [Array.setIfInBounds_comm _ _ (Ne.symm hji)]; exact h.set hims)
      refine ⟨⟨h3.2.1.1, hC'⟩, ih (listed.setIfInBounds j true) a' w' hfree' (hclo.set hj) (ready_mono hr (Ne.symm hji)) h3.1 (h3.2.1.1 hjm) hcl' hC' ?_⟩
      rw [Array.setIfInBounds_comm _ _ hji]
      exact h3.2.2

/-- Those of a plan that must be done where they stand. -/
def Plan.musts : Plan → List Nat
  | .done => []
  | .calm _ p => p.musts
  | .must i p => i :: p.musts
  | .either i p j q => i :: j :: (p.musts ++ q.musts)
/-- No calm one is among these. -/
def calmsOk (ms : List Nat) : Plan → Bool
  | .done => true
  | .calm i p => !ms.contains i && calmsOk ms p
  | .must _ p => calmsOk ms p
  | .either _ p _ q => calmsOk ms p && calmsOk ms q

/-- What is to be shown along a plan; fresh: nothing has turned memory. -/
def WS (c : Cx) (ops : Array Oper) (K : Exit → St → Prop) (Ls L0 : List (Nat × Obj)) (m : Nat) (ms : List Nat) : Bool → Plan → St → Prop
  | _, .done, σ => K .normal σ
  | fresh, .calm i p, σ => ∃ o v X, ops[i]? = some o ∧ dok c.N o.dst = true ∧ (X = Ls ∨ X = L0 ∧ aheadOk ops ms m i = true ∧ fresh = true) ∧ (Qt c σ.s X o v ∧ o.guard = none ∨ ∃ j want og dg b, o.guard = some (j, want) ∧ ops[j]? = some og ∧ og.dst = some dg ∧ look σ.s dg = some b ∧
      ((b = .bool want ∧ Qt c σ.s X o v) ∨ ((b = .bool (!want) ∨ b = undef) ∧ v = undef ∧ ∀ cc, o.op ≠ .defer cc))) ∧ WS c ops K Ls L0 m ms fresh p (σ.put o.dst v)
  | _, .must i p, σ => Must c ops K Ls m i (fun σ' => WS c ops K Ls L0 m ms false p σ') σ
  | _, .either i p j q, σ => Must c ops K Ls m i (fun σ' => WS c ops K Ls L0 m ms false p σ') σ ∧ Must c ops K Ls m j (fun σ' => WS c ops K Ls L0 m ms false q σ') σ

theorem Must.stepK {K : Exit → St → Prop} {Ls L0 : List (Nat × Obj)} {m : Nat} {ms : List Nat} (hlate : lateT ops.toList m = true) (hn : (Ls.map Prod.fst).Nodup) {p : Plan} {fuel : Nat} {listed : Array Bool} {σ : St} {j : Nat} (hclo : Closed ops listed) (hj : j ∈ Region.ready .any ops listed) (hjms : j ∈ ms)
    (ih : ∀ (σ : St), WS c ops K Ls L0 m ms false p σ → ∀ a w, Holds c.g c.N σ a w → (p.calms = true → Mem c.g Ls w) → (Clean ms (listed.setIfInBounds j true) → Mem c.g L0 w) → AnyK c ops K Ls L0 m ms fuel (listed.setIfInBounds j true) a w)
    (hp : planOk ops m p fuel (listed.setIfInBounds j true) = true) (h : Must c ops K Ls m j (fun σ' => WS c ops K Ls L0 m ms false p σ') σ) (a : Act) (w : World) (ha : Holds c.g c.N σ a w) :
    wpOpIn (Fw c.r) c.n c.P ops (liftO c K) j (fun a' w' => ((j < m → Mem c.g Ls w') ∧ (Clean ms (listed.setIfInBounds j true) → Mem c.g L0 w')) ∧ AnyK c ops K Ls L0 m ms fuel (listed.setIfInBounds j true) a' w') a w := by
  have hnc : ¬ Clean ms (listed.setIfInBounds j true) := fun h => by
    have h1 := h j hjms
    obtain ⟨hun, o, ho, _⟩ := mem_ready.1 hj
    rcases Nat.lt_or_ge j listed.size with h' | h'
    · simp [h'] at h1
    · simp [Array.getElem?_eq_none h'] at hun
  obtain ⟨o, ho, hW⟩ := h
  have hgo : ∀ a' w' σ', Holds c.g c.N σ' a' w' → (j < m → ∀ q ∈ Ls, q ∈ σ'.L) → WS c ops K Ls L0 m ms false p σ' → ((j < m → Mem c.g Ls w') ∧ (Clean ms (listed.setIfInBounds j true) → Mem c.g L0 w')) ∧ AnyK c ops K Ls L0 m ms fuel (listed.setIfInBounds j true) a' w' := by
    intro a' w' σ' h1 h2 h3
    have hmem : j < m → Mem c.g Ls w' := fun hjm => h1.mem.sub hn (h2 hjm)
    refine ⟨⟨hmem, fun h => absurd h hnc⟩, ih σ' h3 a' w' h1 (fun hx => ?_) (fun h => absurd h hnc)⟩
    rcases Nat.lt_or_ge j m with hjm | hjm
    · exact hmem hjm
    · exfalso
      have hall : ∀ k, k < m → (listed.setIfInBounds j true).getD k false = true := fun k hk => by
        obtain ⟨_, oj, hoj, hall⟩ := mem_ready.1 hj
        exact getD_set_true (hclo.reach (lateT_ok hlate (by simpa using (Array.getElem?_eq_some_iff.1 hoj).1) hjm hk) fun o ho e he hb => by rw [hoj] at ho; cases ho; exact hall e he hb)
      exact planOk_late p fuel _ hp hall hx
  unfold wpOpIn
  simp only [ho]
  rcases hW with ⟨hg, hW⟩ | ⟨⟨jj, want, og, dg, b, hg, hj, hdg, hb, hcase⟩, hd, h2, h3⟩
  · have hw : Region.wanted o (yielded ops a.tmps) = true := by
      rcases hg with hg | ⟨jj, want, og, dg, hg, hj, hdg, hb⟩
      · simp [Region.wanted, hg]
      · rw [wanted_yes ha hg hj hdg hb]; simp
    simp only [hw, if_true]
    exact Oper.wpIn_mono (fun a' w' ⟨σ', h1, h2, h3⟩ => hgo a' w' σ' h1 h2 h3) (hW a w ha)
  · have hw : Region.wanted o (yielded ops a.tmps) = false := by
      rcases hcase with rfl | rfl
      · rw [wanted_yes ha hg hj hdg hb]; cases want <;> rfl
      · exact wanted_undef ha hg hj hdg hb
    simp only [hw, Bool.false_eq_true, if_false]
    exact ⟨fun _ _ => trivial, hgo _ _ _ (ha.put hd undef) (by cases o.dst <;> exact h2) h3⟩

theorem WS_any {K : Exit → St → Prop} {Ls L0 : List (Nat × Obj)} {m : Nat} {ms : List Nat} (hs : Region.noSelect ops = true) (hlate : lateT ops.toList m = true) (hn : (Ls.map Prod.fst).Nodup) (hsub : ∀ w, Mem c.g L0 w → Mem c.g Ls w) :
    ∀ (p : Plan) (fresh : Bool) (fuel : Nat) (listed : Array Bool) (σ : St), (∀ j ∈ p.musts, j ∈ ms) → calmsOk ms p = true → (fresh = true → Clean ms listed) → Closed ops listed → planOk ops m p fuel listed = true → WS c ops K Ls L0 m ms fresh p σ → ∀ a w, Holds c.g c.N σ a w → (p.calms = true → Mem c.g Ls w) → (Clean ms listed → Mem c.g L0 w) → AnyK c ops K Ls L0 m ms fuel listed a w := by
  intro p
  induction p with
  | done =>
    intro fresh fuel listed σ _ _ _ _ hp h a w ha _ _
    simp only [planOk, Bool.and_eq_true, List.isEmpty_iff] at hp
    obtain ⟨hp, hf⟩ := hp
    obtain rfl := Nat.eq_of_beq_eq_true hf
    exact ⟨hp, σ, ha, h⟩
  | calm i p ih =>
    intro fresh fuel listed σ hms hcm hfr hclo hp h a w ha hm hC
    cases fuel with
    | zero => cases hp
    | succ fuel =>
      simp only [planOk, Bool.and_eq_true, Nat.blt_eq] at hp
      obtain ⟨⟨⟨him, hf⟩, hr⟩, hp⟩ := hp
      simp only [calmsOk, Bool.and_eq_true, Bool.not_eq_true'] at hcm
      have hims : i ∉ ms := fun hx => by
        have := List.contains_iff_mem.2 hx
        rw [hcm.1] at this; cases this
      obtain ⟨o, v, X, ho, hd, hX, hq, hrest⟩ := h
      have hmem : Mem c.g Ls w := hm rfl
      have hcalm : Calm c ops X o v a := by
        rcases hq with ⟨hq, hg⟩ | ⟨j, want, og, dg, b, hg, hj, hdg, hb, hcase⟩
        · exact ⟨hq.1, .inl ⟨by simp [Region.wanted, hg], fun w hw => hq.2 a.eval (fun x u hu => ha.ev hu) w hw⟩⟩
        · have hy : ∀ b', b = .bool b' → Region.wanted o (yielded ops a.tmps) = (b' == want) := fun b' e => by
            subst e; exact wanted_yes ha hg hj hdg hb
          rcases hcase with ⟨hb', hq⟩ | ⟨hb', rfl, hnd⟩
          · exact ⟨hq.1, .inl ⟨by rw [hy _ hb']; simp, fun w hw => hq.2 a.eval (fun x u hu => ha.ev hu) w hw⟩⟩
          · refine ⟨hnd, .inr ⟨?_, rfl⟩⟩
            rcases hb' with hb' | hb'
            · rw [hy _ hb']; cases want <;> rfl
            · subst hb'; exact wanted_undef ha hg hj hdg hb
      refine AnyK.first (X := X) ho (Region.noSelect_spec hs) him hlate hims (hX.imp id fun h => ⟨h.1, h.2.1⟩) hsub fuel listed a w (Region.free_spec ho hf) hclo (by simpa using hr) hcalm hmem (hX.imp id fun h => hfr h.2.2) hC
        (ih fresh fuel _ _ hms hcm.2 (fun h => (hfr h).set hims) (hclo.set (by simpa using hr)) hp hrest _ w (ha.put hd v) (fun _ => hmem) (fun h => hC h.back))
  | must i p ih =>
    intro fresh fuel listed σ hms hcm hfr hclo hp h a w ha hm hC
    cases fuel with
    | zero => cases hp
    | succ fuel =>
      simp only [planOk, Bool.and_eq_true, beq_iff_eq] at hp
      obtain ⟨hr, hp⟩ := hp
      refine ⟨fun h0 => (by rw [hr] at h0; cases h0), fun j hj => ?_⟩
      have hj' := hj
      rw [hr] at hj
      obtain rfl := List.mem_singleton.1 hj
      exact Must.stepK hlate hn hclo hj' (hms j List.mem_cons_self) (fun σ' h' a' w' ha' hm' hC' => ih false fuel _ σ' (fun k hk => hms k (List.mem_cons_of_mem _ hk)) hcm (fun h => by cases h) (hclo.set hj') hp h' a' w' ha' hm' hC') hp h a w ha
  | either i p j q ihp ihq =>
    intro fresh fuel listed σ hms hcm hfr hclo hp h a w ha hm hC
    cases fuel with
    | zero => cases hp
    | succ fuel =>
      simp only [planOk, Bool.and_eq_true, beq_iff_eq] at hp
      obtain ⟨⟨hr, hp⟩, hq⟩ := hp
      simp only [calmsOk, Bool.and_eq_true] at hcm
      refine ⟨fun h0 => (by rw [hr] at h0; cases h0), fun k hk => ?_⟩
      have hk' := hk
      rw [hr] at hk
      rcases List.mem_cons.1 hk with rfl | hk
      · exact Must.stepK hlate hn hclo hk' (hms k List.mem_cons_self) (fun σ' h' a' w' ha' hm' hC' => ihp false fuel _ σ' (fun x hx => hms x (by simp [Plan.musts, hx])) hcm.1 (fun h => by cases h) (hclo.set hk') hp h' a' w' ha' hm' hC') hp h.1 a w ha
      · obtain rfl := List.mem_singleton.1 hk
        exact Must.stepK hlate hn hclo hk' (hms k (by simp [Plan.musts])) (fun σ' h' a' w' ha' hm' hC' => ihq false fuel _ σ' (fun x hx => hms x (by simp [Plan.musts, hx])) hcm.2 (fun h => by cases h) (hclo.set hk') hq h' a' w' ha' hm' hC') hq h.2 a w ha

theorem WC_drawK {K : Exit → St → Prop} {σ : St} {id : Nat} (Ls : List (Nat × Obj)) (m : Nat) (p : Plan) (hm : c.P.follows .mixedOrders = true)
    (hok : (Region.noSelect ops && lateT ops.toList m && planOk ops m p ops.size (Array.replicate ops.size false)) = true) (hcm : calmsOk p.musts p = true) (hsub : Ls.Sublist σ.L) (h : WS c ops K Ls σ.L m p.musts true p σ) : WC c (.region id ops true) K σ := fun a w ha => by
  simp only [Bool.and_eq_true] at hok
  have ha' : Holds c.g c.N σ a { w with drawn := w.drawn + 1 } := ha.mem' ha.mem.drew
  exact Go.wpIn_mono (wpIn_region_any hm (AnyK.any _ _ _ _ (WS_any hok.1.1 hok.1.2 (ha.mem.nodup.sublist (hsub.map _)) (fun w hw => hw.sublist hsub) p true _ _ σ (fun _ h => h) hcm (fun _ j _ => by
    simp [Array.getElem?_replicate]; split <;> rfl) (fun j o _ hj => by
    rw [Array.getD_eq_getD_getElem?, Array.getElem?_replicate] at hj
    split at hj <;> cases hj) hok.2 h a _ ha' (fun _ => ha'.mem.sublist hsub) (fun _ => ha'.mem)))) fun _ _ _ hl => hl.lift
end
end Go.Proofs.Ytnpiiphiiaiodaa
