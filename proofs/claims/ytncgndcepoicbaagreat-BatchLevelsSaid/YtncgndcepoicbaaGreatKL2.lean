/-
  A part of what the last of these texts needs; by itself it proves no statement.
-/
import Derived.RangeFuncNested
import Derived.Test.YtncgndcepoicbaaGreatKL1
namespace Go.Proofs.YtncgndcepoicbaaGreat
open Go.RowKit
inductive T (α : Type) where
  | e
  | n (l : T α) (v : Option α) (r : T α)
def T.get {α : Type} : T α → Nat → Option α
  | .e, _ => none
  | .n l v r, k => match Nat.beq k 0 with
    | true => v
    | false => match Nat.beq (Nat.mod k 2) 1 with
      | true => l.get (Nat.div k 2)
      | false => r.get (Nat.sub (Nat.div k 2) 1)
def T.left {α : Type} : T α → T α
  | .e => .e
  | .n l _ _ => l
def T.right {α : Type} : T α → T α
  | .e => .e
  | .n _ _ r => r
def T.val {α : Type} : T α → Option α
  | .e => none
  | .n _ v _ => v
def T.put {α : Type} : Nat → T α → Nat → Option α → T α
  | 0, _, _, _ => .e
  | f + 1, t, k, v => match Nat.beq k 0 with
    | true => .n t.left v t.right
    | false => match Nat.beq (Nat.mod k 2) 1 with
      | true => .n (T.put f t.left (Nat.div k 2) v) t.val t.right
      | false => .n t.left t.val (T.put f t.right (Nat.sub (Nat.div k 2) 1) v)
theorem T.get_zero {α : Type} (t : T α) : t.get 0 = t.val := by cases t <;> rfl
theorem T.get_odd {α : Type} (t : T α) (j : Nat) : t.get (2 * j + 1) = t.left.get j := by
  cases t with
  | e => rfl
  | n l v r =>
    have h1 : Nat.beq (2 * j + 1) 0 = false := Bool.eq_false_iff.2 fun h => by have := Nat.eq_of_beq_eq_true h; omega
    have h2 : Nat.mod (2 * j + 1) 2 = 1 := by show (2 * j + 1) % 2 = 1; omega
    have h3 : Nat.div (2 * j + 1) 2 = j := by show (2 * j + 1) / 2 = j; omega
    simp only [T.get, h1, h2, h3, T.left, Nat.beq_refl]
theorem T.get_even {α : Type} (t : T α) (j : Nat) : t.get (2 * j + 2) = t.right.get j := by
  cases t with
  | e => rfl
  | n l v r =>
    have h1 : Nat.beq (2 * j + 2) 0 = false := Bool.eq_false_iff.2 fun h => by have := Nat.eq_of_beq_eq_true h; omega
    have h2 : Nat.mod (2 * j + 2) 2 = 0 := by show (2 * j + 2) % 2 = 0; omega
    have h3 : Nat.sub (Nat.div (2 * j + 2) 2) 1 = j := by show (2 * j + 2) / 2 - 1 = j; omega
    simp only [T.get, h1, h2, h3, T.right]
    try rfl
theorem nat_cases (k : Nat) : k = 0 ∨ (∃ j, k = 2 * j + 1) ∨ ∃ j, k = 2 * j + 2 := by
  rcases Nat.lt_or_ge k 1 with h | h
  · exact .inl (by omega)
  · by_cases hk : k % 2 = 1
    · exact .inr (.inl ⟨k / 2, by omega⟩)
    · exact .inr (.inr ⟨k / 2 - 1, by omega⟩)
theorem T.put_zero {α : Type} (f : Nat) (t : T α) (v : Option α) : T.put (f + 1) t 0 v = .n t.left v t.right := rfl
theorem T.put_odd {α : Type} (f : Nat) (t : T α) (j : Nat) (v : Option α) : T.put (f + 1) t (2 * j + 1) v = .n (T.put f t.left j v) t.val t.right := by
  have h1 : Nat.beq (2 * j + 1) 0 = false := Bool.eq_false_iff.2 fun h => by have := Nat.eq_of_beq_eq_true h; omega
  have h2 : Nat.mod (2 * j + 1) 2 = 1 := by show (2 * j + 1) % 2 = 1; omega
  have h3 : Nat.div (2 * j + 1) 2 = j := by show (2 * j + 1) / 2 = j; omega
  simp only [T.put, h1, h2, h3]
  try rfl
theorem T.put_even {α : Type} (f : Nat) (t : T α) (j : Nat) (v : Option α) : T.put (f + 1) t (2 * j + 2) v = .n t.left t.val (T.put f t.right j v) := by
  have h1 : Nat.beq (2 * j + 2) 0 = false := Bool.eq_false_iff.2 fun h => by have := Nat.eq_of_beq_eq_true h; omega
  have h2 : Nat.mod (2 * j + 2) 2 = 0 := by show (2 * j + 2) % 2 = 0; omega
  have h3 : Nat.sub (Nat.div (2 * j + 2) 2) 1 = j := by show (2 * j + 2) / 2 - 1 = j; omega
  simp only [T.put, h1, h2, h3]
  try rfl
theorem T.get_put {α : Type} : ∀ (f : Nat) (t : T α) (k j : Nat) (v : Option α) (u : α), (T.put f t k v).get j = some u → (j = k ∧ v = some u) ∨ (j ≠ k ∧ t.get j = some u)
  | 0, _, _, _, _, _, h => by cases h
  | f + 1, t, k, j, v, u, h => by
    rcases nat_cases k with rfl | ⟨k, rfl⟩ | ⟨k, rfl⟩
    · rw [T.put_zero] at h
      rcases nat_cases j with rfl | ⟨j, rfl⟩ | ⟨j, rfl⟩
      · exact .inl ⟨rfl, h⟩
      · rw [T.get_odd] at h ⊢; exact .inr ⟨by omega, h⟩
      · rw [T.get_even] at h ⊢; exact .inr ⟨by omega, h⟩
    · rw [T.put_odd] at h
      rcases nat_cases j with rfl | ⟨j, rfl⟩ | ⟨j, rfl⟩
      · rw [T.get_zero] at h ⊢; exact .inr ⟨by omega, h⟩
      · rw [T.get_odd] at h ⊢
        rcases T.get_put f t.left k j v u h with ⟨rfl, h1⟩ | ⟨h1, h2⟩
        · exact .inl ⟨rfl, h1⟩
        · exact .inr ⟨by omega, h2⟩
      · rw [T.get_even] at h ⊢; exact .inr ⟨by omega, h⟩
    · rw [T.put_even] at h
      rcases nat_cases j with rfl | ⟨j, rfl⟩ | ⟨j, rfl⟩
      · rw [T.get_zero] at h ⊢; exact .inr ⟨by omega, h⟩
      · rw [T.get_odd] at h ⊢; exact .inr ⟨by omega, h⟩
      · rw [T.get_even] at h ⊢
        rcases T.get_put f t.right k j v u h with ⟨rfl, h1⟩ | ⟨h1, h2⟩
        · exact .inl ⟨rfl, h1⟩
        · exact .inr ⟨by omega, h2⟩
def T.set {α : Type} (t : T α) (k : Nat) (v : α) : T α := T.put 40 t k (some v)
theorem T.get_set {α : Type} {t : T α} {k j : Nat} {v u : α} (h : (t.set k v).get j = some u) : (j = k ∧ v = u) ∨ (j ≠ k ∧ t.get j = some u) := by
  rcases T.get_put 40 t k j (some v) u h with ⟨h1, h2⟩ | h1
  · exact .inl ⟨h1, Option.some.inj h2⟩
  · exact .inr h1
attribute [local irreducible] T.put T.set
inductive WaitsOn (ops : List Oper) : Nat → Nat → Prop
  | one {j : Nat} {o : Oper} {e : Edge} (hj : ops[j]? = some o) (he : e ∈ o.after) (hb : Region.binds .any e = true) : WaitsOn ops j e.on
  | more {j k : Nat} {o : Oper} {e : Edge} (hj : ops[j]? = some o) (he : e ∈ o.after) (hb : Region.binds .any e = true) (h : WaitsOn ops e.on k) : WaitsOn ops j k
def orE (M : T Nat) : List Edge → Nat
  | [] => 0
  | e :: r => match Region.binds .any e with
    | true => Nat.lor (Nat.lor (Nat.shiftLeft 1 e.on) ((M.get e.on).getD 0)) (orE M r)
    | false => orE M r
def maskL : List Oper → Nat → T Nat → T Nat
  | [], _, M => M
  | o :: r, j, M => maskL r (Nat.succ j) (M.set j (orE M o.after.toList))
theorem orE_ok {ops : List Oper} {M : T Nat} (hM : ∀ j n, M.get j = some n → ∀ k, n.testBit k = true → WaitsOn ops j k) {j : Nat} {o : Oper} (hj : ops[j]? = some o) : ∀ (l : List Edge), (∀ e ∈ l, e ∈ o.after) → ∀ k, (orE M l).testBit k = true → WaitsOn ops j k
  | [], _, k, h => by simp [orE] at h
  | e :: r, hl, k, h => by
    have hr := orE_ok hM hj r (fun e he => hl e (List.mem_cons_of_mem _ he)) k
    simp only [orE] at h
    split at h
    · rename_i hb
      have h : (((1 <<< e.on) ||| ((M.get e.on).getD 0)) ||| orE M r).testBit k = true := h
      rw [Nat.testBit_or, Nat.testBit_or] at h
      simp only [Bool.or_eq_true] at h
      rcases h with (h | h) | h
      · have : k = e.on := by
          rw [Nat.testBit_shiftLeft] at h
          simp only [Bool.and_eq_true, decide_eq_true_eq] at h
          have h2 := h.2
          rcases Nat.lt_or_ge e.on k with hl | hl
          · obtain ⟨q, hq⟩ : ∃ q, k - e.on = q + 1 := ⟨k - e.on - 1, by omega⟩
            rw [hq] at h2
            simp [Nat.testBit_succ] at h2
          · omega
        subst this
        exact .one hj (hl e List.mem_cons_self) hb
      · cases hg : M.get e.on with
        | none => rw [hg] at h; simp at h
        | some n => rw [hg] at h; exact .more hj (hl e List.mem_cons_self) hb (hM _ _ hg k h)
      · exact hr h
    · exact hr h
theorem maskL_ok {ops : List Oper} : ∀ (l : List Oper) (j : Nat) (M : T Nat), (∀ i o, l[i]? = some o → ops[j + i]? = some o) → (∀ j n, M.get j = some n → ∀ k, n.testBit k = true → WaitsOn ops j k) → ∀ q n, (maskL l j M).get q = some n → ∀ k, n.testBit k = true → WaitsOn ops q k
  | [], _, _, _, hM, q, n, h => hM q n h
  | o :: r, j, M, hl, hM, q, n, h => by
    refine maskL_ok r (Nat.succ j) _ (fun i o' h' => ?_) (fun j' n' h' k hk => ?_) q n h
    · have := hl (i + 1) o' (by simpa using h')
      rwa [show Nat.succ j + i = j + (i + 1) by omega]
    · rcases T.get_set h' with ⟨rfl, rfl⟩ | ⟨_, h''⟩
      · exact orE_ok hM (hl 0 o rfl) _ (fun e he => by simpa using he) k hk
      · exact hM _ _ h'' k hk
section
variable {c : Cx} {ops : Array Oper}
def Calm (c : Cx) (ops : Array Oper) (Ls : List (Nat × Obj)) (o : Oper) (v : Value) (a : Act) : Prop :=
  (∀ cc, o.op ≠ .defer cc) ∧ ((Region.wanted o (yielded ops a.tmps) = true ∧ ∀ w, Mem c.g Ls w → (execOp a.eval o).run c.P w = .ok (.value v) w) ∨ (Region.wanted o (yielded ops a.tmps) = false ∧ v = undef))
def AnyH (c : Cx) (ops : Array Oper) (K : Exit → St → Prop) (Ls : List (Nat × Obj)) (m : Nat) : Nat → Array Bool → Act → World → Prop
  | 0, listed, a, w => Region.ready .any ops listed = [] ∧ liftO c K .normal a w
  | fuel + 1, listed, a, w =>
    (Region.ready .any ops listed = [] → liftO c K .normal a w) ∧
    ∀ i ∈ Region.ready .any ops listed, wpOpIn (Fw c.r) c.n c.P ops (liftO c K) i (fun a' w' => (i < m → Mem c.g Ls w') ∧ AnyH c ops K Ls m fuel (listed.setIfInBounds i true) a' w') a w
theorem AnyH.any {K : Exit → St → Prop} {Ls : List (Nat × Obj)} {m : Nat} : ∀ (fuel : Nat) (listed : Array Bool) (a : Act) (w : World), AnyH c ops K Ls m fuel listed a w → wpAnyIn (Fw c.r) c.n c.P .any ops (liftO c K) fuel listed a w
  | 0, _, _, _, h => h
  | fuel + 1, _, _, _, h => ⟨h.1, fun i hi => wpOpIn_mono (fun a' w' h' => AnyH.any fuel _ a' w' h'.2) (h.2 i hi)⟩
theorem lift_panic_put {K : Exit → St → Prop} {ch : List PanicEntry} {a : Act} {w : World} {d : Option Nat} {v : Value} (h : liftO c K (.panic ch) (a.put d v) w) : liftO c K (.panic ch) a w := by
  obtain ⟨D, L, h1, h2⟩ := h
  refine ⟨D, L, ⟨?_, (fun t u hu => by cases hu), ?_, h1.mem⟩, h2⟩
  · have := h1.size
    cases d with
    | none => exact this
    | some d => simpa [Act.put] using this
  · have := h1.defers
    cases d <;> exact this
theorem Calm.keep {Ls : List (Nat × Obj)} {oi oj : Oper} {v : Value} {a : Act} (h : Calm c ops Ls oi v a) (hsi : ∀ cs b, oi.op ≠ .select cs b) (hap : ∀ d, oj.dst = some d → d ∉ oi.looksAt ops) (u : Value) : Calm c ops Ls oi v (a.put oj.dst u) := by
  unfold Calm at *
  rw [execOp_put oi hsi a oj.dst u hap, wanted_put oi a oj.dst u hap]
  exact h
set_option maxHeartbeats 4000000 in
theorem wpOpIn_calm {K : Exit → St → Prop} {Ls : List (Nat × Obj)} {j : Nat} {oi oj : Oper} {v : Value} (hj : ops[j]? = some oj) (hap : oi.apart ops oj = true)
    (hsi : ∀ cs b, oi.op ≠ .select cs b) (hsj : ∀ cs b, oj.op ≠ .select cs b) {Kn : Act → World → Prop} {a : Act} {w : World}
    (hy : Calm c ops Ls oi v a) (h : wpOpIn (Fw c.r) c.n c.P ops (liftO c K) j Kn (a.put oi.dst v) w) :
    wpOpIn (Fw c.r) c.n c.P ops (liftO c K) j (fun a' w' => Calm c ops Ls oi v a' ∧ Kn (a'.put oi.dst v) w') a w := by
  obtain ⟨h1, h2, h3⟩ := Oper.apart_spec hap
  have keep : ∀ u, Calm c ops Ls oi v (a.put oj.dst u) := fun u => hy.keep hsi h3 u
  have hcomm : ∀ u, (a.put oi.dst v).put oj.dst u = (a.put oj.dst u).put oi.dst v := fun u => Act.put_comm a v u h2
  unfold wpOpIn at *
  simp only [hj] at *
  rw [wanted_put oj a oi.dst v h1, about_put oj w a oi.dst v h1] at h
  split
  · rename_i hw
    simp only [hw, if_true] at h
    unfold Oper.wpIn at *
    refine ⟨fun _ _ => trivial, ?_⟩
    have h := h.2
    have he : oj.semAt (Fw c.r).round (a.put oi.dst v).eval = oj.semAt (Fw c.r).round a.eval := by
      have hx := execOp_put oj hsj a oi.dst v h1
      cases hr : (Fw c.r).round with
      | none => exact hx
      | some l =>
        unfold Oper.semAt
        split
        · rename_i l' cc e1 e2
          have hre : resolve (a.put oi.dst v).eval cc oj.type = resolve a.eval cc oj.type := resolve_congr cc oj.type fun x hx => Act.eval_put fun d hd hxd => h1 d hd (by
            subst hxd
            exact List.mem_append_left _ (List.mem_filterMap.2 ⟨.tmp d, by rw [e2]; simpa [Op.operands] using hx, rfl⟩))
          rw [hre]
        · exact hx
    rw [he] at h
    generalize (oj.semAt (Fw c.r).round a.eval).run c.P w = r at *
    cases r with
    | ok x w' =>
      cases x <;> simp only [Oper.uponIn] at h ⊢
      case value u => exact ⟨keep u, by rw [← hcomm]; exact h⟩
      case skip => exact ⟨keep _, by rw [← hcomm]; exact h⟩
      case defer d =>
        refine ⟨?_, ?_⟩
        · have hd : Calm c ops Ls oi v { a with defers := d :: a.defers } := hy
          exact hd.keep hsi h3 _
        · rw [← Act.put_comm _ v undef h2, ← Act.put_defers]
          exact h
      case enter f args =>
        refine ⟨h.1, CallsIn.mono h.2 fun e w'' he => ?_⟩
        cases e with
        | returned u => exact ⟨keep u, by rw [← hcomm]; exact he⟩
        | panicked ch => exact lift_panic_put he
        | outgrown => exact he
      case row row args => exact ⟨h.1, RowsIn.mono h.2 fun u w'' he => ⟨keep u, by rw [← hcomm]; exact he⟩⟩
      case round l f tmps assign body =>
        refine ⟨h.1, RoundIn.mono h.2 fun e w'' he => ?_⟩
        cases e with
        | returned u => exact ⟨keep u, by rw [← hcomm]; exact he⟩
        | panicked ch => exact lift_panic_put he
        | outgrown => exact he
    | halt x w' =>
      cases x <;> simp only [Oper.uponIn] at h ⊢
      case panic u => exact lift_panic_put h
  · rename_i hw
    simp only [hw] at h
    exact ⟨fun _ _ => trivial, keep _, by rw [← hcomm]; exact h.2⟩
theorem Calm.op {K : Exit → St → Prop} {Ls : List (Nat × Obj)} {i : Nat} {o : Oper} {v : Value} {a : Act} {w : World} (hi : ops[i]? = some o) (hy : Calm c ops Ls o v a) (hm : Mem c.g Ls w) {Kn : Act → World → Prop} (h : Kn (a.put o.dst v) w) :
    wpOpIn (Fw c.r) c.n c.P ops (liftO c K) i Kn a w := by
  unfold wpOpIn
  simp only [hi]
  rcases hy.2 with ⟨hw, hv⟩ | ⟨hw, rfl⟩
  · simp only [hw, if_true, Oper.wpIn]
    rw [Oper.semAt_eq _ _ _ hy.1, hv w hm]
    exact ⟨fun _ _ => trivial, h⟩
  · simp only [hw, Bool.false_eq_true, if_false]
    exact ⟨fun _ _ => trivial, h⟩
def lateOk (ops : Array Oper) (m : Nat) : Bool :=
  (List.range ops.size).all fun j => decide (j < m) || match ops[j]? with
    | some o => (List.range m).all fun k => o.after.any fun e => Region.binds .any e && e.on == k
    | none => true
theorem lateOk_spec {m : Nat} (h : lateOk ops m = true) {j k : Nat} {o : Oper} (hj : ops[j]? = some o) (hm : m ≤ j) (hk : k < m) : ∃ e ∈ o.after, Region.binds .any e = true ∧ e.on = k := by
  simp only [lateOk, List.all_eq_true, List.mem_range] at h
  have h1 := h j (Array.getElem?_eq_some_iff.1 hj).1
  simp only [hj, Bool.or_eq_true, decide_eq_true_eq, List.all_eq_true, List.mem_range] at h1
  rcases h1 with h1 | h1
  · omega
  · have h3 := h1 k hk
    rw [← Array.any_toList, List.any_eq_true] at h3
    obtain ⟨e, he, h2⟩ := h3
    simp only [Bool.and_eq_true, beq_iff_eq] at h2
    exact ⟨e, by simpa using he, h2.1, h2.2⟩
set_option maxHeartbeats 4000000 in
theorem AnyH.first {K : Exit → St → Prop} {Ls : List (Nat × Obj)} {m : Nat} {i : Nat} {oi : Oper} {v : Value} (hi : ops[i]? = some oi) (hsel : ∀ (j : Nat) (o : Oper) cs b, ops[j]? = some o → o.op ≠ .select cs b) (him : i < m) (hlate : lateOk ops m = true) :
    ∀ (fuel : Nat) (listed : Array Bool) (a : Act) (w : World),
      (∀ j oj, ops[j]? = some oj → j ≠ i → listed.getD j true = false → (∀ e ∈ oj.after, Region.binds .any e = true → e.on ≠ i) → oi.apart ops oj = true) →
      i ∈ Region.ready .any ops listed → Calm c ops Ls oi v a → Mem c.g Ls w →
      AnyH c ops K Ls m fuel (listed.setIfInBounds i true) (a.put oi.dst v) w → AnyH c ops K Ls m (fuel + 1) listed a w := by
  intro fuel
  induction fuel with
  | zero =>
    intro listed a w _ hr hy hS H
    refine ⟨fun h => (by rw [h] at hr; cases hr), fun j hj => ?_⟩
    by_cases hji : j = i
    · subst hji; exact hy.op hi hS ⟨fun _ => hS, H⟩
    · have := ready_mono hj hji
      rw [H.1] at this
      cases this
  | succ fuel ih =>
    intro listed a w hfree hr hy hS H
    refine ⟨fun h => (by rw [h] at hr; cases hr), fun j hj => ?_⟩
    by_cases hji : j = i
    · subst hji; exact hy.op hi hS ⟨fun _ => hS, H⟩
    · have h1 := H.2 j (ready_mono hj hji)
      obtain ⟨hjun, oj, hoj, hall⟩ := mem_ready.1 hj
      have hnot : ∀ e ∈ oj.after, Region.binds .any e = true → e.on ≠ i := fun e he hb heq => by
        have h1 := hall e he hb
        have h0 := (mem_ready.1 hr).1
        rw [heq] at h1
        rcases Nat.lt_or_ge i listed.size with h' | h'
        · simp [h'] at h0 h1; rw [h0] at h1; cases h1
        · simp [Array.getElem?_eq_none h'] at h1
      have hjm : j < m := by
        rcases Nat.lt_or_ge j m with h' | h'
        · exact h'
        · obtain ⟨e, he, hb, heq⟩ := lateOk_spec hlate hoj h' him
          exact absurd heq (hnot e he hb)
      have h2 := wpOpIn_calm hoj (hfree j oj hoj hji hjun hnot) (fun cs b => hsel i oi cs b hi) (fun cs b => hsel j oj cs b hoj) hy h1
      have hfree' : ∀ k ok, ops[k]? = some ok → k ≠ i → (listed.setIfInBounds j true).getD k true = false →
          (∀ e ∈ ok.after, Region.binds .any e = true → e.on ≠ i) → oi.apart ops ok = true := fun k ok hk hki hun hno => by
        refine hfree k ok hk hki ?_ hno
        by_cases hjk : j = k
        · subst hjk; exact hjun
        · rw [getD_set_ne true hjk] at hun; exact hun
      refine wpOpIn_mono (fun a' w' h3 => ⟨h3.2.1, ih (listed.setIfInBounds j true) a' w' hfree' (ready_mono hr (Ne.symm hji)) h3.1 (h3.2.1 hjm) ?_⟩) h2
      rw [Array.setIfInBounds_comm _ _ hji]
      exact h3.2.2
inductive Plan where
  | done
  | calm (i : Nat) (p : Plan)
  | must (i : Nat) (p : Plan)
  | either (i : Nat) (p : Plan) (j : Nat) (q : Plan)
  | par (l : List (Nat × List Nat)) (p : Plan)
def memB (k : Nat) : List Nat → Bool
  | [] => false
  | j :: r => match Nat.beq j k with
    | true => true
    | false => memB k r
abbrev Cs (l : List Nat) (p : Plan) : Plan := l.foldr .calm p
theorem memB_ok {k : Nat} : ∀ {l : List Nat}, memB k l = true → k ∈ l
  | [], h => by cases h
  | j :: r, h => by
    simp only [memB] at h
    split at h
    · rename_i e; rw [Nat.eq_of_beq_eq_true e]; exact List.mem_cons_self
    · exact List.mem_cons_of_mem _ (memB_ok h)
theorem memB_no {k : Nat} : ∀ {l : List Nat}, memB k l = false → k ∉ l
  | [], _ => by simp
  | j :: r, h => by
    simp only [memB] at h
    split at h
    · cases h
    · rename_i e
      simp only [List.mem_cons, not_or]
      exact ⟨fun e2 => by subst e2; simp at e, memB_no h⟩
def bitOf (M : T Nat) (x y : Nat) : Bool := match M.get x with
  | some n => Nat.testBit n y
  | none => false
def parEach (ops : Array Oper) (M : T Nat) (m : Nat) (listed : Array Bool) : List Nat → List (Nat × List Nat) → Bool
  | _, [] => true
  | E, (x, ds) :: r => match ops[x]? with
    | some o => Nat.blt x m && !(listed.getD x true) && !(memB x E) && (ds.all fun y => memB y E && bitOf M x y) && (o.after.all fun e => !(Region.binds .any e) || listed.getD e.on false || memB e.on E) && parEach ops M m listed (x :: E) r
    | none => false
def parOk (ops : Array Oper) (m : Nat) (listed : Array Bool) (l : List (Nat × List Nat)) : Bool :=
  !l.isEmpty && parEach ops (maskL ops.toList 0 .e) m listed [] l && ((List.range ops.size).all fun z => listed.getD z true || memB z (l.map Prod.fst) || (l.all fun x => bitOf (maskL ops.toList 0 .e) z x.1))
def listAll (l : List (Nat × List Nat)) (listed : Array Bool) : Array Bool := match l with
  | [] => listed
  | x :: r => listAll r (listed.setIfInBounds x.1 true)
def planOk (ops : Array Oper) (m : Nat) : Plan → Nat → Array Bool → Bool
  | .done, fuel, listed => (Region.ready .any ops listed).isEmpty && Nat.beq fuel 0
  | .calm i p, fuel, listed => match fuel with
    | 0 => false
    | fuel + 1 => Nat.blt i m && Region.free .any ops listed i && (Region.ready .any ops listed).contains i && planOk ops m p fuel (listed.setIfInBounds i true)
  | .must i p, fuel, listed => match fuel with
    | 0 => false
    | fuel + 1 => (Region.ready .any ops listed == [i]) && planOk ops m p fuel (listed.setIfInBounds i true)
  | .par l p, fuel, listed => parOk ops m listed l && Nat.ble l.length fuel && planOk ops m p (Nat.sub fuel l.length) (listAll l listed)
  | .either i p j q, fuel, listed => match fuel with
    | 0 => false
    | fuel + 1 => (Region.ready .any ops listed == [i, j]) && planOk ops m p fuel (listed.setIfInBounds i true) && planOk ops m q fuel (listed.setIfInBounds j true)
def Plan.calms : Plan → Bool
  | .done => false
  | .calm _ _ => true
  | .must _ p => p.calms
  | .either _ p _ q => p.calms || q.calms
  | .par _ _ => true
def Must (c : Cx) (ops : Array Oper) (K : Exit → St → Prop) (Ls : List (Nat × Obj)) (m i : Nat) (W : St → Prop) (σ : St) : Prop := ∃ o, ops[i]? = some o ∧
      ((o.guard = none ∨ ∃ j want og dg, o.guard = some (j, want) ∧ ops[j]? = some og ∧ og.dst = some dg ∧ look σ.s dg = some (.bool want)) ∧ OW c o (fun σ' => (i < m → ∀ q ∈ Ls, q ∈ σ'.L) ∧ W σ') K σ ∨
       (∃ j want og dg b, o.guard = some (j, want) ∧ ops[j]? = some og ∧ og.dst = some dg ∧ look σ.s dg = some b ∧ (b = .bool (!want) ∨ b = undef)) ∧ dok c.N o.dst = true ∧ (i < m → ∀ q ∈ Ls, q ∈ σ.L) ∧ W (σ.put o.dst undef))
def WR (c : Cx) (ops : Array Oper) (K : Exit → St → Prop) : List (Nat × Obj) → Nat → Plan → St → Prop
  | _, _, .done, σ => K .normal σ
  | Ls, m, .calm i p, σ => ∃ o v, ops[i]? = some o ∧ dok c.N o.dst = true ∧ (Qt c σ.s Ls o v ∧ o.guard = none ∨ ∃ j want og dg b, o.guard = some (j, want) ∧ ops[j]? = some og ∧ og.dst = some dg ∧ look σ.s dg = some b ∧
      ((b = .bool want ∧ Qt c σ.s Ls o v) ∨ ((b = .bool (!want) ∨ b = undef) ∧ v = undef ∧ ∀ cc, o.op ≠ .defer cc))) ∧ WR c ops K Ls m p (σ.put o.dst v)
  | Ls, m, .must i p, σ => Must c ops K Ls m i (fun σ' => WR c ops K Ls m p σ' ∨ ((∀ q ∈ Ls, q ∈ σ'.L) ∧ WR c ops K σ'.L m p σ')) σ
  | _, _, .par _ _, _ => False
  | Ls, m, .either i p j q, σ => Must c ops K Ls m i (fun σ' => WR c ops K Ls m p σ' ∨ ((∀ q ∈ Ls, q ∈ σ'.L) ∧ WR c ops K σ'.L m p σ')) σ ∧ Must c ops K Ls m j (fun σ' => WR c ops K Ls m q σ' ∨ ((∀ q ∈ Ls, q ∈ σ'.L) ∧ WR c ops K σ'.L m q σ')) σ
theorem AnyH.grow {K : Exit → St → Prop} {Ls Ls' : List (Nat × Obj)} {m : Nat} (hn : (Ls.map Prod.fst).Nodup) (hs : ∀ q ∈ Ls, q ∈ Ls') : ∀ (fuel : Nat) (listed : Array Bool) (a : Act) (w : World), AnyH c ops K Ls' m fuel listed a w → AnyH c ops K Ls m fuel listed a w
  | 0, _, _, _, h => h
  | fuel + 1, _, _, _, h => ⟨h.1, fun i hi => wpOpIn_mono (fun a' w' h' => ⟨fun him => (h'.1 him).sub hn hs, AnyH.grow hn hs fuel _ a' w' h'.2⟩) (h.2 i hi)⟩
theorem wanted_yes {g : World} {N : Nat} {σ : St} {a : Act} {w : World} (ha : Holds g N σ a w) {o og : Oper} {j dg : Nat} {want : Bool} (hg : o.guard = some (j, want)) (hj : ops[j]? = some og) (hdg : og.dst = some dg) {b : Bool} (hb : look σ.s dg = some (.bool b)) : Region.wanted o (yielded ops a.tmps) = (b == want) := by
  have hs := ha.slots dg _ hb
  rw [Array.getD_eq_getD_getElem?] at hs
  have hy : yielded ops a.tmps j = some b := by
    unfold yielded
    simp only [hj, Option.bind_some, hdg]
    cases hx : a.tmps[dg]? with
    | none => rw [hx] at hs; cases hs
    | some u => rw [hx] at hs; simp only [Option.getD_some] at hs; subst hs; rfl
  unfold Region.wanted
  simp only [hg, hy]
  rfl
theorem wanted_undef {g : World} {N : Nat} {σ : St} {a : Act} {w : World} (ha : Holds g N σ a w) {o og : Oper} {j dg : Nat} {want : Bool} (hg : o.guard = some (j, want)) (hj : ops[j]? = some og) (hdg : og.dst = some dg) (hb : look σ.s dg = some undef) : Region.wanted o (yielded ops a.tmps) = false := by
  have hs := ha.slots dg _ hb
  rw [Array.getD_eq_getD_getElem?] at hs
  have hy : yielded ops a.tmps j = none := by
    unfold yielded
    simp only [hj, Option.bind_some, hdg]
    cases hx : a.tmps[dg]? with
    | none => rfl
    | some u => rw [hx] at hs; simp only [Option.getD_some] at hs; subst hs; rfl
  unfold Region.wanted
  simp only [hg, hy]
  rfl
theorem planOk_late {m : Nat} : ∀ (p : Plan) (fuel : Nat) (listed : Array Bool), planOk ops m p fuel listed = true → (∀ k, k < m → listed.getD k false = true) → p.calms = true → False := by
  intro p
  induction p with
  | done => intro _ _ _ _ h; cases h
  | calm k0 p ihp =>
    intro fuel listed hp hall _
    cases fuel with
    | zero => cases hp
    | succ fuel =>
      simp only [planOk, Bool.and_eq_true, Nat.blt_eq] at hp
      obtain ⟨⟨⟨hkm, _⟩, hrd⟩, _⟩ := hp
      have h0 := (mem_ready.1 (List.contains_iff_mem.1 hrd)).1
      have h1 := hall k0 hkm
      rcases Nat.lt_or_ge k0 listed.size with h' | h'
      · simp [h'] at h0 h1; rw [h0] at h1; cases h1
      · simp [Array.getElem?_eq_none h'] at h1
  | must k0 p ihp =>
    intro fuel listed hp hall hc
    cases fuel with
    | zero => cases hp
    | succ fuel =>
      simp only [planOk, Bool.and_eq_true] at hp
      exact ihp fuel _ hp.2 (fun k hk => getD_set_true (hall k hk)) hc
  | either i p j q ihp ihq =>
    intro fuel listed hp hall hc
    cases fuel with
    | zero => cases hp
    | succ fuel =>
      simp only [planOk, Bool.and_eq_true] at hp
      simp only [Plan.calms, Bool.or_eq_true] at hc
      rcases hc with hc | hc
      · exact ihp fuel _ hp.1.2 (fun k hk => getD_set_true (hall k hk)) hc
      · exact ihq fuel _ hp.2 (fun k hk => getD_set_true (hall k hk)) hc
  | par l p ih =>
    intro fuel listed hp hall hc
    simp only [planOk, parOk, Bool.and_eq_true] at hp
    obtain ⟨⟨⟨⟨h1, h2⟩, _⟩, _⟩, _⟩ := hp
    cases l with
    | nil => cases h1
    | cons q r =>
      obtain ⟨x, ds⟩ := q
      simp only [parEach] at h2
      split at h2
      · simp only [Bool.and_eq_true, Nat.blt_eq, Bool.not_eq_true'] at h2
        obtain ⟨⟨⟨⟨⟨hx, h0⟩, _⟩, _⟩, _⟩, _⟩ := h2
        have h1 := hall x hx
        rcases Nat.lt_or_ge x listed.size with h' | h'
        · simp [h'] at h0 h1; rw [h0] at h1; cases h1
        · simp [Array.getElem?_eq_none h'] at h1
      · cases h2
theorem Must.step {K : Exit → St → Prop} {Ls : List (Nat × Obj)} {m : Nat} (hlate : lateOk ops m = true) (hn : (Ls.map Prod.fst).Nodup) {p : Plan} {fuel : Nat} {listed : Array Bool} {σ : St} {j : Nat} (hj : j ∈ Region.ready .any ops listed)
    {W : St → Prop} (ih : ∀ (σ : St), W σ → ∀ a w, Holds c.g c.N σ a w → (p.calms = true → Mem c.g Ls w) → AnyH c ops K Ls m fuel (listed.setIfInBounds j true) a w)
    (hp : planOk ops m p fuel (listed.setIfInBounds j true) = true) (h : Must c ops K Ls m j W σ) (a : Act) (w : World) (ha : Holds c.g c.N σ a w) :
    wpOpIn (Fw c.r) c.n c.P ops (liftO c K) j (fun a' w' => (j < m → Mem c.g Ls w') ∧ AnyH c ops K Ls m fuel (listed.setIfInBounds j true) a' w') a w := by
  obtain ⟨o, ho, hW⟩ := h
  have hgo : ∀ a' w' σ', Holds c.g c.N σ' a' w' → (j < m → ∀ q ∈ Ls, q ∈ σ'.L) → W σ' → (j < m → Mem c.g Ls w') ∧ AnyH c ops K Ls m fuel (listed.setIfInBounds j true) a' w' := by
    intro a' w' σ' h1 h2 h3
    have hmem : j < m → Mem c.g Ls w' := fun hjm => h1.mem.sub hn (h2 hjm)
    refine ⟨hmem, ih σ' h3 a' w' h1 (fun hx => ?_)⟩
    rcases Nat.lt_or_ge j m with hjm | hjm
    · exact hmem hjm
    · exfalso
      have hall : ∀ k, k < m → (listed.setIfInBounds j true).getD k false = true := fun k hk => by
        obtain ⟨_, oj, hoj, hall⟩ := mem_ready.1 hj
        obtain ⟨e, he, hb, heq⟩ := lateOk_spec hlate hoj hjm hk
        exact getD_set_true (heq ▸ hall e he hb)
      exact planOk_late p fuel _ hp hall hx
  unfold wpOpIn
  simp only [ho]
  rcases hW with ⟨hg, hW⟩ | ⟨⟨jj, want, og, dg, b, hg, hj, hdg, hb, hcase⟩, hd, h2, h3⟩
  · have hw : Region.wanted o (yielded ops a.tmps) = true := by
      rcases hg with hg | ⟨jj, want, og, dg, hg, hj, hdg, hb⟩
      · simp [Region.wanted, hg]
      · rw [wanted_yes ha hg hj hdg hb]; simp
    simp only [hw, if_true]
    exact Oper.wpIn_mono (fun a' w' ⟨σ', h1, h2, h3⟩ => hgo a' w' σ' h1 h2 h3) (hW a w ha)
  · have hw : Region.wanted o (yielded ops a.tmps) = false := by
      rcases hcase with rfl | rfl
      · rw [wanted_yes ha hg hj hdg hb]; cases want <;> rfl
      · exact wanted_undef ha hg hj hdg hb
    simp only [hw, Bool.false_eq_true, if_false]
    exact ⟨fun _ _ => trivial, hgo _ _ _ (ha.put hd undef) (by cases o.dst <;> exact h2) h3⟩
set_option maxHeartbeats 4000000 in
theorem WR_any {K : Exit → St → Prop} {m : Nat} (hs : Region.noSelect ops = true) (hlate : lateOk ops m = true) :
    ∀ (p : Plan) (Ls : List (Nat × Obj)) (_ : (Ls.map Prod.fst).Nodup) (fuel : Nat) (listed : Array Bool) (σ : St), planOk ops m p fuel listed = true → WR c ops K Ls m p σ → ∀ a w, Holds c.g c.N σ a w → (p.calms = true → Mem c.g Ls w) → AnyH c ops K Ls m fuel listed a w := by
  intro p
  induction p with
  | done =>
    intro Ls hn fuel listed σ hp h a w ha _
    simp only [planOk, Bool.and_eq_true, List.isEmpty_iff] at hp
    obtain ⟨hp, hf⟩ := hp
    obtain rfl := Nat.eq_of_beq_eq_true hf
    exact ⟨hp, σ, ha, h⟩
  | calm i p ih =>
    intro Ls hn fuel listed σ hp h a w ha hm
    cases fuel with
    | zero => cases hp
    | succ fuel =>
      simp only [planOk, Bool.and_eq_true, Nat.blt_eq] at hp
      obtain ⟨⟨⟨him, hf⟩, hr⟩, hp⟩ := hp
      obtain ⟨o, v, ho, hd, hq, hrest⟩ := h
      have hmem : Mem c.g Ls w := hm rfl
      have hcalm : Calm c ops Ls o v a := by
        rcases hq with ⟨hq, hg⟩ | ⟨j, want, og, dg, b, hg, hj, hdg, hb, hcase⟩
        · exact ⟨hq.1, .inl ⟨by simp [Region.wanted, hg], fun w hw => hq.2 a.eval (fun x u hu => ha.ev hu) w hw⟩⟩
        · have hy : ∀ b', b = .bool b' → Region.wanted o (yielded ops a.tmps) = (b' == want) := fun b' e => by
            subst e; exact wanted_yes ha hg hj hdg hb
          rcases hcase with ⟨hb', hq⟩ | ⟨hb', rfl, hnd⟩
          · exact ⟨hq.1, .inl ⟨by rw [hy _ hb']; simp, fun w hw => hq.2 a.eval (fun x u hu => ha.ev hu) w hw⟩⟩
          · refine ⟨hnd, .inr ⟨?_, rfl⟩⟩
            rcases hb' with hb' | hb'
            · rw [hy _ hb']; cases want <;> rfl
            · subst hb'; exact wanted_undef ha hg hj hdg hb
      exact AnyH.first ho (Region.noSelect_spec hs) him hlate fuel listed a w (Region.free_spec ho hf) (by simpa using hr) hcalm hmem
        (ih Ls hn fuel _ _ hp hrest _ w (ha.put hd v) (fun _ => hmem))
  | must i p ih =>
    intro Ls hn fuel listed σ hp h a w ha hm
    cases fuel with
    | zero => cases hp
    | succ fuel =>
      simp only [planOk, Bool.and_eq_true, beq_iff_eq] at hp
      obtain ⟨hr, hp⟩ := hp
      refine ⟨fun h0 => (by rw [hr] at h0; cases h0), fun j hj => ?_⟩
      have hj' := hj
      rw [hr] at hj
      obtain rfl := List.mem_singleton.1 hj
      exact Must.step hlate hn hj' (fun σ' h' a' w' ha' hm' => h'.elim (fun h1 => ih Ls hn fuel _ σ' hp h1 a' w' ha' hm') (fun h1 => AnyH.grow hn h1.1 _ _ _ _ (ih σ'.L ha'.mem.nodup fuel _ σ' hp h1.2 a' w' ha' (fun _ => ha'.mem)))) hp h a w ha
  | either i p j q ihp ihq =>
    intro Ls hn fuel listed σ hp h a w ha hm
    cases fuel with
    | zero => cases hp
    | succ fuel =>
      simp only [planOk, Bool.and_eq_true, beq_iff_eq] at hp
      obtain ⟨⟨hr, hp⟩, hq⟩ := hp
      refine ⟨fun h0 => (by rw [hr] at h0; cases h0), fun k hk => ?_⟩
      have hk' := hk
      rw [hr] at hk
      rcases List.mem_cons.1 hk with rfl | hk
      · exact Must.step hlate hn hk' (fun σ' h' a' w' ha' hm' => h'.elim (fun h1 => ihp Ls hn fuel _ σ' hp h1 a' w' ha' hm') (fun h1 => AnyH.grow hn h1.1 _ _ _ _ (ihp σ'.L ha'.mem.nodup fuel _ σ' hp h1.2 a' w' ha' (fun _ => ha'.mem)))) hp h.1 a w ha
      · obtain rfl := List.mem_singleton.1 hk
        exact Must.step hlate hn hk' (fun σ' h' a' w' ha' hm' => h'.elim (fun h1 => ihq Ls hn fuel _ σ' hq h1 a' w' ha' hm') (fun h1 => AnyH.grow hn h1.1 _ _ _ _ (ihq σ'.L ha'.mem.nodup fuel _ σ' hq h1.2 a' w' ha' (fun _ => ha'.mem)))) hq h.2 a w ha
  | par l p ih => intro Ls hn fuel listed σ hp h; exact h.elim
theorem WC_draw {K : Exit → St → Prop} {σ : St} {id : Nat} (Ls : List (Nat × Obj)) (m : Nat) (p : Plan) (hm : c.P.follows .mixedOrders = true)
    (hok : (Region.noSelect ops && lateOk ops m && planOk ops m p ops.size (Array.replicate ops.size false)) = true) (hsub : (σ.L.map Prod.fst).Nodup → (Ls.map Prod.fst).Nodup ∧ ∀ q ∈ Ls, q ∈ σ.L) (h : WR c ops K Ls m p σ) : WC c (.region id ops true) K σ := fun a w ha => by
  simp only [Bool.and_eq_true] at hok
  obtain ⟨hn, hs⟩ := hsub ha.mem.nodup
  have ha' : Holds c.g c.N σ a { w with drawn := w.drawn + 1 } := ha.mem' ha.mem.drew
  exact Go.wpIn_mono (wpIn_region_any hm (AnyH.any _ _ _ _ (WR_any hok.1.1 hok.1.2 p Ls hn _ _ σ hok.2 h a _ ha' (fun _ => ha'.mem.sub hn hs)))) fun _ _ _ hl => hl.lift
def notDefer : Op → Bool
  | .defer _ => false
  | _ => true
theorem WR_qt {K : Exit → St → Prop} {Ls : List (Nat × Obj)} {m i : Nat} {p : Plan} {σ : St} {o : Oper} {v : Value} (ho : ops[i]? = some o) (hq : Qt c σ.s Ls o v) (hg : o.guard = none) (hd : dok c.N o.dst = true) (hk : WR c ops K Ls m p (σ.put o.dst v)) : WR c ops K Ls m (.calm i p) σ :=
  ⟨o, v, ho, hd, .inl ⟨hq, hg⟩, hk⟩
theorem WR_qt_yes {K : Exit → St → Prop} {Ls : List (Nat × Obj)} {m i j : Nat} {want : Bool} {og : Oper} {dg : Nat} {p : Plan} {σ : St} {o : Oper} {v : Value} (ho : ops[i]? = some o) (hg : o.guard = some (j, want)) (hj : ops[j]? = some og) (hdg : og.dst = some dg) {b : Bool} (hb : look σ.s dg = some (.bool b)) (he : b = want) (hq : Qt c σ.s Ls o v) (hd : dok c.N o.dst = true) (hk : WR c ops K Ls m p (σ.put o.dst v)) : WR c ops K Ls m (.calm i p) σ :=
  ⟨o, v, ho, hd, .inr ⟨j, want, og, dg, _, hg, hj, hdg, hb, .inl ⟨by rw [he], hq⟩⟩, hk⟩
theorem WR_qt_no {K : Exit → St → Prop} {Ls : List (Nat × Obj)} {m i j : Nat} {want : Bool} {og : Oper} {dg : Nat} {p : Plan} {σ : St} {o : Oper} (ho : ops[i]? = some o) (hg : o.guard = some (j, want)) (hj : ops[j]? = some og) (hdg : og.dst = some dg) {b : Bool} (hb : look σ.s dg = some (.bool b)) (he : b = !want) (hdef : notDefer o.op = true) (hd : dok c.N o.dst = true) (hk : WR c ops K Ls m p (σ.put o.dst undef)) : WR c ops K Ls m (.calm i p) σ :=
  ⟨o, undef, ho, hd, .inr ⟨j, want, og, dg, _, hg, hj, hdg, hb, .inr ⟨.inl (by rw [he]), rfl, fun cc h => by rw [h] at hdef; cases hdef⟩⟩, hk⟩
theorem WR_qt_undef {K : Exit → St → Prop} {Ls : List (Nat × Obj)} {m i j : Nat} {want : Bool} {og : Oper} {dg : Nat} {p : Plan} {σ : St} {o : Oper} (ho : ops[i]? = some o) (hg : o.guard = some (j, want)) (hj : ops[j]? = some og) (hdg : og.dst = some dg) (hb : look σ.s dg = some undef) (hdef : notDefer o.op = true) (hd : dok c.N o.dst = true) (hk : WR c ops K Ls m p (σ.put o.dst undef)) : WR c ops K Ls m (.calm i p) σ :=
  ⟨o, undef, ho, hd, .inr ⟨j, want, og, dg, _, hg, hj, hdg, hb, .inr ⟨.inr rfl, rfl, fun cc h => by rw [h] at hdef; cases hdef⟩⟩, hk⟩
theorem WR_q {K : Exit → St → Prop} {Ls : List (Nat × Obj)} {m i : Nat} {p : Plan} {op : Op} {d ty : Nat} {pos : String} {aft : Array Edge} {s : List (Nat × Value)} {D : List Deferred} {L : List (Nat × Obj)} {v : Value} (ho : ops[i]? = some ⟨some d, op, ty, pos, aft, none⟩)
    (hq : Qt c s Ls ⟨some d, op, ty, pos, aft, none⟩ v) (hd : Nat.blt d c.N = true) (hk : WR c ops K Ls m p ⟨(d, v) :: s, D, L⟩) : WR c ops K Ls m (.calm i p) ⟨s, D, L⟩ := WR_qt (σ := ⟨s, D, L⟩) ho hq rfl hd hk
theorem WR_yes {K : Exit → St → Prop} {Ls : List (Nat × Obj)} {m i j : Nat} {want : Bool} {og : Oper} {dg : Nat} {p : Plan} {op : Op} {d ty : Nat} {pos : String} {aft : Array Edge} {s : List (Nat × Value)} {D : List Deferred} {L : List (Nat × Obj)} {v : Value} (ho : ops[i]? = some ⟨some d, op, ty, pos, aft, some (j, want)⟩)
    (hj : ops[j]? = some og) (hdg : og.dst = some dg) {b : Bool} (hb : look s dg = some (.bool b)) (he : b = want) (hq : Qt c s Ls ⟨some d, op, ty, pos, aft, some (j, want)⟩ v) (hd : Nat.blt d c.N = true) (hk : WR c ops K Ls m p ⟨(d, v) :: s, D, L⟩) : WR c ops K Ls m (.calm i p) ⟨s, D, L⟩ :=
  WR_qt_yes (σ := ⟨s, D, L⟩) ho rfl hj hdg hb he hq hd hk
theorem WR_no {K : Exit → St → Prop} {Ls : List (Nat × Obj)} {m i j : Nat} {want : Bool} {og : Oper} {dg : Nat} {p : Plan} {op : Op} {d ty : Nat} {pos : String} {aft : Array Edge} {s : List (Nat × Value)} {D : List Deferred} {L : List (Nat × Obj)} (ho : ops[i]? = some ⟨some d, op, ty, pos, aft, some (j, want)⟩)
    (hj : ops[j]? = some og := by exact rfl) (hdg : og.dst = some dg := by exact rfl) {b : Bool} (hb : look s dg = some (.bool b) := by exact rfl) (he : b = !want := by first | with_reducible assumption | with_reducible rfl | decide) (hdef : notDefer op = true := by exact rfl) (hd : Nat.blt d c.N = true := by exact rfl) (hk : WR c ops K Ls m p ⟨(d, undef) :: s, D, L⟩) : WR c ops K Ls m (.calm i p) ⟨s, D, L⟩ :=
  WR_qt_no (σ := ⟨s, D, L⟩) ho rfl hj hdg hb he hdef hd hk
theorem WR_un {K : Exit → St → Prop} {Ls : List (Nat × Obj)} {m i j : Nat} {want : Bool} {og : Oper} {dg : Nat} {p : Plan} {op : Op} {d ty : Nat} {pos : String} {aft : Array Edge} {s : List (Nat × Value)} {D : List Deferred} {L : List (Nat × Obj)} (ho : ops[i]? = some ⟨some d, op, ty, pos, aft, some (j, want)⟩)
    (hj : ops[j]? = some og := by exact rfl) (hdg : og.dst = some dg := by exact rfl) (hb : look s dg = some undef := by exact rfl) (hdef : notDefer op = true := by exact rfl) (hd : Nat.blt d c.N = true := by exact rfl) (hk : WR c ops K Ls m p ⟨(d, undef) :: s, D, L⟩) : WR c ops K Ls m (.calm i p) ⟨s, D, L⟩ :=
  WR_qt_undef (σ := ⟨s, D, L⟩) ho rfl hj hdg hb hdef hd hk
theorem WR_op {K : Exit → St → Prop} {Ls : List (Nat × Obj)} {m i : Nat} {p : Plan} {σ : St} {o : Oper} (ho : ops[i]? = some o) (hg : o.guard = none) (h : OW c o (fun σ' => (∀ q ∈ Ls, q ∈ σ'.L) ∧ WR c ops K Ls m p σ') K σ) : WR c ops K Ls m (.must i p) σ :=
  ⟨o, ho, .inl ⟨.inl hg, h.mono fun _ h' => ⟨fun _ => h'.1, .inl h'.2⟩⟩⟩
theorem WR_late {K : Exit → St → Prop} {Ls : List (Nat × Obj)} {m i : Nat} {p : Plan} {σ : St} {o : Oper} (ho : ops[i]? = some o) (hm : Nat.ble m i = true) (hg : o.guard = none) (h : OW c o (WR c ops K Ls m p) K σ) : WR c ops K Ls m (.must i p) σ :=
  ⟨o, ho, .inl ⟨.inl hg, h.mono fun _ h' => ⟨fun hlt => by have := Nat.le_of_ble_eq_true hm; omega, .inl h'⟩⟩⟩
theorem WR_opN {K : Exit → St → Prop} {Ls : List (Nat × Obj)} {m i j dg : Nat} {want b : Bool} {og : Oper} {p : Plan} {σ : St} {o : Oper} (ho : ops[i]? = some o) (hg : o.guard = some (j, want)) (hj : ops[j]? = some og) (hdg : og.dst = some dg) (hb : look σ.s dg = some (.bool b)) (he : b = !want) (hd : dok c.N o.dst = true) (hL : ∀ q ∈ Ls, q ∈ σ.L) (h : WR c ops K Ls m p (σ.put o.dst undef)) : WR c ops K Ls m (.must i p) σ :=
  ⟨o, ho, .inr ⟨⟨j, want, og, dg, _, hg, hj, hdg, hb, .inl (by rw [he])⟩, hd, fun _ => hL, .inl h⟩⟩
theorem WR_opG {K : Exit → St → Prop} {Ls : List (Nat × Obj)} {m i : Nat} {p : Plan} {σ : St} {o : Oper} (ho : ops[i]? = some o) (hg : o.guard = none) (h : OW c o (fun σ' => (∀ q ∈ Ls, q ∈ σ'.L) ∧ WR c ops K σ'.L m p σ') K σ) : WR c ops K Ls m (.must i p) σ :=
  ⟨o, ho, .inl ⟨.inl hg, h.mono fun _ h' => ⟨fun _ => h'.1, .inr h'⟩⟩⟩
theorem WR_opYG {K : Exit → St → Prop} {Ls : List (Nat × Obj)} {m i j dg : Nat} {want b : Bool} {og : Oper} {p : Plan} {σ : St} {o : Oper} (ho : ops[i]? = some o) (hg : o.guard = some (j, want) := by exact rfl) (hj : ops[j]? = some og := by exact rfl) (hdg : og.dst = some dg := by exact rfl) (hb : look σ.s dg = some (.bool b) := by exact rfl) (he : b = want := by first | with_reducible assumption | with_reducible rfl | decide) (h : OW c o (fun σ' => (∀ q ∈ Ls, q ∈ σ'.L) ∧ WR c ops K σ'.L m p σ') K σ) : WR c ops K Ls m (.must i p) σ :=
  ⟨o, ho, .inl ⟨.inr ⟨j, want, og, dg, hg, hj, hdg, by rw [hb, he]⟩, h.mono fun _ h' => ⟨fun _ => h'.1, .inr h'⟩⟩⟩
theorem WR_either {K : Exit → St → Prop} {Ls : List (Nat × Obj)} {m i j : Nat} {p q : Plan} {σ : St} (h1 : WR c ops K Ls m (.must i p) σ) (h2 : WR c ops K Ls m (.must j q) σ) : WR c ops K Ls m (.either i p j q) σ := ⟨h1, h2⟩
theorem WR_nil {K : Exit → St → Prop} {Ls : List (Nat × Obj)} {m : Nat} {σ : St} (h : K .normal σ) : WR c ops K Ls m .done σ := h
theorem WC_draw_all {K : Exit → St → Prop} {σ : St} {id : Nat} (m : Nat) (p : Plan) (hm : c.P.follows .mixedOrders = true)
    (hok : (Region.noSelect ops && lateOk ops m && planOk ops m p ops.size (Array.replicate ops.size false)) = true) (h : WR c ops K σ.L m p σ) : WC c (.region id ops true) K σ :=
  WC_draw σ.L m p hm hok (fun hn => ⟨hn, fun _ h => h⟩) h
theorem WC_cond_t {x : Operand} {t e : Code} {K : Exit → St → Prop} {σ : St} {b : Bool} (hx : ev σ.s x = some (.bool b) := by exact rfl) (hb : b = true := by first | with_reducible assumption | with_reducible rfl | decide) (ht : WC c t K σ) : WC c (.cond x t e) K σ := WC_cond hx (fun _ => ht) (fun h => by rw [hb] at h; cases h)
theorem WC_cond_f {x : Operand} {t e : Code} {K : Exit → St → Prop} {σ : St} {b : Bool} (hx : ev σ.s x = some (.bool b) := by exact rfl) (hb : b = false := by first | with_reducible assumption | with_reducible rfl | decide) (he : WC c e K σ) : WC c (.cond x t e) K σ := WC_cond hx (fun h => by rw [hb] at h; cases h) (fun _ => he)
theorem WL_yes {op : Op} {d ty : Nat} {pos : String} {aft : Array Edge} {og : Oper} {rest : List Oper} {K : Exit → St → Prop} {s : List (Nat × Value)} {D : List Deferred} {L : List (Nat × Obj)} {j : Nat} {want b : Bool} {dg : Nat} (hj : ops[j]? = some og := by exact rfl) (hdg : og.dst = some dg := by exact rfl) (hb : look s dg = some (.bool b) := by exact rfl) (he : b = want := by first | with_reducible assumption | with_reducible rfl | decide)
    (hd : Nat.blt d c.N = true := by exact rfl) (h : OW c ⟨some d, op, ty, pos, aft, some (j, want)⟩ (WL c ops rest K) K ⟨s, D, L⟩) : WL c ops (⟨some d, op, ty, pos, aft, some (j, want)⟩ :: rest) K ⟨s, D, L⟩ :=
  WL_guard (σ := ⟨s, D, L⟩) rfl hj hdg hb (fun _ => h) hd (fun e => by subst he; cases b <;> cases e)
theorem WL_no {op : Op} {d ty : Nat} {pos : String} {aft : Array Edge} {og : Oper} {rest : List Oper} {K : Exit → St → Prop} {s : List (Nat × Value)} {D : List Deferred} {L : List (Nat × Obj)} {j : Nat} {want b : Bool} {dg : Nat} (hj : ops[j]? = some og := by exact rfl) (hdg : og.dst = some dg := by exact rfl) (hb : look s dg = some (.bool b) := by exact rfl) (he : b = !want := by first | with_reducible assumption | with_reducible rfl | decide)
    (hd : Nat.blt d c.N = true := by exact rfl) (h : WL c ops rest K ⟨(d, undef) :: s, D, L⟩) : WL c ops (⟨some d, op, ty, pos, aft, some (j, want)⟩ :: rest) K ⟨s, D, L⟩ :=
  WL_guard (σ := ⟨s, D, L⟩) rfl hj hdg hb (fun e => by subst e; cases b <;> cases he) hd (fun _ => h)
end
end Go.Proofs.YtncgndcepoicbaaGreat
namespace Go.Proofs.YtncgndcepoicbaaGreat
open Go.RowKit
theorem OW_callv {c : Cx} {o : Oper} {Kn : St → Prop} {K : Exit → St → Prop} {s : List (Nat × Value)} {D : List Deferred} {L : List (Nat × Obj)} {f d : FuncId} {x : Operand} {A B : Array Value} {args : Array Operand} {tys : Array TypeId} [hf : FCall c.P f] {vs : List Value} {R : Value → List (Nat × Obj) → Prop}
    (ho : o.op = .call { callee := .value x, args := args, argTypes := tys }) (hdst : o.dst = some d) (hx : ev s x = some (.func (.func f) A B)) (ha : evs s args.toList = some vs) (hd : Nat.blt d c.N = true) (hF : Fn c.P f (A.toList ++ vs ++ B.toList) L R) (hk : ∀ v L', R v L' → Kn ⟨(d, v) :: s, D, L'⟩) : OW c o Kn K ⟨s, D, L⟩ := fun a w hH => by
  refine ⟨fun _ _ => trivial, ?_⟩
  have hargs : args.map a.eval = vs.toArray := by
    apply Array.ext'
    simpa using hH.evs ha
  have hr : (execOp a.eval o).run c.P w = .ok (.enter f (A.toList ++ vs ++ B.toList).toArray) w := by
    have e : (A.toList ++ vs ++ B.toList).toArray = A ++ vs.toArray ++ B := by apply Array.ext'; simp
    rw [e]
    simp [execOp, ho, resolve, Deferred.ofValue, hH.ev hx, hargs, invoke, hf.h]
  rw [Oper.semAt_eq _ _ _ (by rw [ho]; intro cc h; cases h), hr]
  refine ⟨fun h => by simp at h, (callsIn_fw c.r _ (hF c.g w hH.mem)).mono fun e w' ⟨v, L', h1, h2, h3⟩ => ?_⟩
  subst h1
  refine ⟨_, ?_, hk v L' h3⟩
  rw [hdst]
  exact (hH.mem' h2).put (d := some d) hd v
def YieldFn (P : Program) (l : Nat) (args : List Value) (L : List (Nat × Obj)) (R : Value → List (Nat × Obj) → Prop) : Prop :=
  ∀ g w n, Mem g L w → ∃ fn tmps assign body, (Instr.yield l args.toArray).run P w = .ok (.round l fn tmps assign body) w ∧
    RoundIn (Fw none) n P l fn tmps assign body w fun e w' => ∃ v L', e = .returned v ∧ Mem g L' w' ∧ R v L'
theorem OW_yield {c : Cx} {o : Oper} {Kn : St → Prop} {K : Exit → St → Prop} {s : List (Nat × Value)} {D : List Deferred} {L : List (Nat × Obj)} {l d : Nat} {x : Operand} {args : Array Operand} {tys : Array TypeId} {vs : List Value} {R : Value → List (Nat × Obj) → Prop}
    (ho : o.op = .call { callee := .value x, args := args, argTypes := tys }) (hdst : o.dst = some d) (hx : ev s x = some (.func (.yield l) #[] #[])) (ha : evs s args.toList = some vs) (hd : Nat.blt d c.N = true) (hY : YieldFn c.P l vs L R) (hk : ∀ v L', R v L' → Kn ⟨(d, v) :: s, D, L'⟩) : OW c o Kn K ⟨s, D, L⟩ := fun a w hH => by
  refine ⟨fun _ _ => trivial, ?_⟩
  have hargs : args.map a.eval = vs.toArray := by
    apply Array.ext'
    simpa using hH.evs ha
  obtain ⟨fn, tmps, assign, body, h1, h2⟩ := hY c.g w (c.n - 1) hH.mem
  have hr : (execOp a.eval o).run c.P w = .ok (.round l fn tmps assign body) w := by
    simp [execOp, ho, resolve, Deferred.ofValue, hH.ev hx, hargs, invoke, h1]
  rw [Oper.semAt_eq _ _ _ (by rw [ho]; intro cc h; cases h), hr]
  have h2' : RoundIn (Fw c.r) (c.n - 1) c.P l fn tmps assign body w fun e w' => ∃ v L', e = .returned v ∧ Mem c.g L' w' ∧ R v L' := h2
  refine ⟨fun h => by simp at h, h2'.mono fun e w' ⟨v, L', h1, h2, h3⟩ => ?_⟩
  subst h1
  refine ⟨_, ?_, hk v L' h3⟩
  rw [hdst]
  exact (hH.mem' h2).put (d := some d) hd v
abbrev markD (r : Nat) : Deferred := { target := .collected r, args := #[] }
theorem Mem.putObj {g w : World} {L : List (Nat × Obj)} (h : Mem g L w) {i b : Nat} {o : Obj} (hi : L[i]? = some (b, o)) (o' : Obj) : Mem g (L.set i (b, o')) (w.putObj b o') :=
  h.set hi rfl rfl rfl (by simp) (World.putObj_heap_same (h.lt _ (List.mem_of_getElem? hi))) (fun k _ hk => World.putObj_heap_other hk)
def MarksOk : List Deferred → List (Nat × Obj) → List (Nat × Obj) → Prop
  | [], L, L' => L' = L
  | d :: ds, L, L' => ∃ r i L1, d = markD r ∧ L[i]? = some (r, .deferred (some [])) ∧ setL L i (r, .deferred none) = some L1 ∧ MarksOk ds L1 L'
def postM (c : Cx) (fn : Func) (R : Value → List (Nat × Obj) → Prop) : Exit → St → Prop
  | .normal, σ | .ret, σ => ∃ L', MarksOk σ.D σ.L L' ∧ ∃ v Lx, Res c fn ⟨σ.s, [], L'⟩ v ∧ Lx.Sublist L' ∧ R v Lx
  | _, _ => False
set_option maxHeartbeats 4000000 in
theorem Fn_enterM {P : Program} {f : FuncId} {fn : Func} {code : Code} {args : List Value} {L : List (Nat × Obj)} {R : Value → List (Nat × Obj) → Prop} {N : Nat} (hf : P.funcs[f]? = some fn) (hb : fn.body = some code) (hN : fn.ntmps = N) (hl : Nat.ble args.length N = true)
    (h : ∀ g, WC ⟨P, g, N, 0, none⟩ code (postM ⟨P, g, N, 0, none⟩ fn R) ⟨initS 0 args, [], L⟩) : Fn P f args L R := fun g w hm => by
  refine (callsIn_wide (n := 0)).1 (callsIn_of_wp_marks hf hb trivial (Go.wpIn_mono (h g _ w ?_) fun e a' w' hl => ?_) rfl)
  · have hle : args.length ≤ N := Nat.le_of_ble_eq_true hl
    refine ⟨?_, ?_, rfl, hm⟩
    · simp only [hN, Array.size_append, List.size_toArray, Array.size_replicate]; omega
    · intro t v hv
      obtain ⟨_, h2⟩ := look_initS args 0 t v hv
      simp only [Nat.sub_zero] at h2
      have hlt : t < args.length := (List.getElem?_eq_some_iff.1 h2).1
      simp [Array.getElem?_append, hlt] at h2 ⊢
      simp [h2]
  · have key : ∀ (ds : List Deferred) (σ : St) (a' : Act) (w' : World), Holds g N ⟨σ.s, [], σ.L⟩ { a' with defers := [] } w' → ∀ L', MarksOk ds σ.L L' → (∃ v Lx, Res ⟨P, g, N, 0, none⟩ fn ⟨σ.s, [], L'⟩ v ∧ Lx.Sublist L' ∧ R v Lx) →
        LeavesInM Fence.wide 0 P fn a'.tmps (fun e w' => ∃ v L', e = .returned v ∧ Mem g L' w' ∧ R v L') ds .returning w' := by
      intro ds
      induction ds with
      | nil =>
        intro σ a' w' hH L' hM ⟨v, Lx, h1, h2, h3⟩
        cases hM
        exact ⟨v, h1 { a' with defers := [] } w' hH, v, Lx, rfl, hH.mem.sublist h2, h3⟩
      | cons d ds ih =>
        intro σ a' w' hH L' ⟨r, i, L1, hd, hi, hs, hM⟩ hR
        subst hd
        have hm' := hH.mem.putObj hi (.deferred none)
        rw [setL_eq hs] at hm'
        exact ⟨by simp, .inl ⟨r, w'.putObj r (.deferred none), rfl, run_takeDeferred (hH.mem.at_ hi), ih ⟨σ.s, [], L1⟩ a' _ (hH.mem' hm') L' hM hR⟩⟩
    cases e with
    | normal => obtain ⟨σ, h1, L', hM, hR⟩ := hl; rw [show bodyPostM _ _ _ _ _ .normal a' w' = LeavesInM _ _ _ _ _ _ _ _ _ from rfl, h1.defers]; exact key σ.D σ a' w' ⟨h1.size, h1.slots, rfl, h1.mem⟩ L' hM hR
    | ret => obtain ⟨σ, h1, L', hM, hR⟩ := hl; rw [show bodyPostM _ _ _ _ _ .ret a' w' = LeavesInM _ _ _ _ _ _ _ _ _ from rfl, h1.defers]; exact key σ.D σ a' w' ⟨h1.size, h1.slots, rfl, h1.mem⟩ L' hM hR
    | panic ch => obtain ⟨σ, _, h2⟩ := hl; exact h2.elim
    | exit id => obtain ⟨σ, _, h2⟩ := hl; exact h2.elim
    | goto l => obtain ⟨σ, _, h2⟩ := hl; exact h2.elim
    | outgrown => obtain ⟨σ, _, h2⟩ := hl; exact h2.elim
def zipS : List Nat → List Value → List (Nat × Value) → List (Nat × Value)
  | p :: ps, v :: vs, s => zipS ps vs ((p, v) :: s)
  | _, _, s => s
theorem holds_zip {g w : World} {N : Nat} {D : List Deferred} {L : List (Nat × Obj)} : ∀ (ps : List Nat) (vs : List Value) (s : List (Nat × Value)) (a : Act), (ps.all fun p => Nat.blt p N) = true → Holds g N ⟨s, D, L⟩ a w →
    Holds g N ⟨zipS ps vs s, D, L⟩ { a with tmps := (ps.zip vs).foldl (fun t (q : Nat × Value) => t.setIfInBounds q.1 q.2) a.tmps } w
  | [], _, _, _, _, h => h
  | _ :: _, [], _, _, _, h => h
  | p :: ps, v :: vs, s, a, hp, h => by
    simp only [List.all_cons, Bool.and_eq_true] at hp
    exact holds_zip ps vs ((p, v) :: s) { a with tmps := a.tmps.setIfInBounds p v } hp.2 (h.put (d := some p) hp.1 v)
def RoundOk (c : Cx) (l d : Nat) (assign body : Code) (σ : St) (L' : List (Nat × Obj)) (goOn : List (Nat × Obj) → Prop) (leave : Code → List (Nat × Obj) → Prop) : Prop :=
  ∀ ol od, (∃ r, ol = Obj.loop r) → WC { c with r := some l } assign (fun e σ' => e = .normal ∧ ∃ s' A B, σ' = ⟨s', [], A ++ (l, ol) :: B⟩ ∧ ∀ ol', (∃ r, ol' = Obj.loop r) →
    WC { c with r := some l } body (fun e σ'' => match e with
      | .normal => ∃ L'', ((l, ol') :: (d, od) :: L'').Sublist σ''.L ∧ goOn L''
      | .ret => ∃ L'', ((l, ol') :: (d, od) :: L'').Sublist σ''.L ∧ leave .ret L''
      | .exit id => ∃ L'', ((l, ol') :: (d, od) :: L'').Sublist σ''.L ∧ leave (.exit id) L''
      | .goto t => ∃ L'', ((l, ol') :: (d, od) :: L'').Sublist σ''.L ∧ leave (.goto t) L''
      | _ => False) ⟨s', [], A ++ (l, ol') :: B⟩) ⟨σ.s, [], (l, ol) :: (d, od) :: L'⟩
set_option maxHeartbeats 4000000 in
theorem WC_range {α : Type} {P : Program} {g : World} {N n : Nat} {x : Operand} {ps : Array Nat} {assign body : Code} {K : Exit → St → Prop} {s : List (Nat × Value)} {D : List Deferred} {L : List (Nat × Obj)} {gf : Nat} {fs lb : Array Value} [hf : FCall P gf]
    (hx : ev s x = some (.func (.func gf) fs lb)) (enc : α → List Value) (hps : ∀ y, (enc y).length = ps.size) (hpn : (ps.toList.all fun p => Nat.blt p N) = true)
    (Dom : List α → α → Prop) (Fin : List α → Prop) (I : List α → List (Nat × Obj) → Prop) (Ix : Code → List (Nat × Obj) → Prop)
    (hit : ∀ (l d : Nat) (o1 o2 : Obj) (Jx : List (Nat × Obj) → Prop),
      (∀ pre y L1, Dom pre y → (∃ L', L1 = (l, o1) :: (d, o2) :: L' ∧ I pre L') → YieldFn P l (enc y) L1 (fun v L2 => (v = .bool true ∧ ∃ L', L2 = (l, o1) :: (d, o2) :: L' ∧ I (pre ++ [y]) L') ∨ (v = .bool false ∧ Jx L2))) →
      Fn P gf (fs.toList ++ [.func (.yield l) #[] #[]] ++ lb.toList) ((l, o1) :: (d, o2) :: L) (fun _ L2 => (∃ xs L', Fin xs ∧ L2 = (l, o1) :: (d, o2) :: L' ∧ I xs L') ∨ Jx L2))
    (hbody : ∀ g' n' l d pre y L', Dom pre y → I pre L' → RoundOk ⟨P, g', N, n', none⟩ l d assign body ⟨zipS ps.toList (enc y) s, [], L'⟩ L' (I (pre ++ [y])) Ix)
    (hdone : ∀ d xs L', Fin xs → I xs L' → K .normal ⟨s, markD d :: D, (d, .deferred (some [])) :: L'⟩)
    (hstop : ∀ d cj L', Ix cj L' → WC ⟨P, g, N, n, none⟩ cj K ⟨s, markD d :: D, (d, .deferred (some [])) :: L'⟩) :
    WC ⟨P, g, N, n, none⟩ (.rangeFunc x ps assign body) K ⟨s, D, L⟩ := fun a w ha => by
  refine wpIn_rangeFunc ?_
  intro fn _
  obtain ⟨rec, hrec⟩ : ∃ rec : LoopState → Option Code → Loop, rec = fun st pe => { state := st, pending := pe, fn, tmps := a.tmps, params := ps, assign, body, defers := w.heap.size } := ⟨_, rfl⟩
  obtain ⟨W1, hW1⟩ : ∃ W1, (w.alloc (.deferred (some []))).alloc (.loop (rec .ready none)) = W1 := ⟨_, rfl⟩
  have hm1 : Mem g ((w.heap.size + 1, .loop (rec .ready none)) :: (w.heap.size, .deferred (some [])) :: L) W1 := by
    have := (ha.mem.alloc (.deferred (some []))).alloc (.loop (rec .ready none))
    rw [World.size_alloc] at this
    rw [← hW1]; exact this
  refine ⟨w.heap.size + 1, [markD w.heap.size], W1, { target := .fn (.func gf) lb, args := fs ++ #[.func (.yield (w.heap.size + 1)) #[] #[]] }, W1, gf, fs ++ #[.func (.yield (w.heap.size + 1)) #[] #[]] ++ lb, W1, ?_, ?_, fun _ _ => trivial, ?_, fun h => by simp at h, ?_⟩
  · rw [← hW1, hrec]; exact run_enterLoop_outer _ _ _ _ _
  · have := ha.ev hx
    simp [resolve, this, Deferred.ofValue, show ∀ v, a.eval (.const v) = v from fun _ => rfl]
  · simp [invoke, hf.h]
  · generalize hl : w.heap.size + 1 = l at hm1 ⊢
    generalize hd : w.heap.size = d at hm1 ⊢
    let Jx : List (Nat × Obj) → Prop := fun L2 => ∃ cj L', L2 = (l, .loop (rec .done (some cj))) :: (d, .deferred (some [])) :: L' ∧ Ix cj L'
    have hcall := hit l d (.loop (rec .ready none)) (.deferred (some [])) Jx ?_
    · have e : (fs.toList ++ [Value.func (.yield l) #[] #[]] ++ lb.toList).toArray = fs ++ #[.func (.yield l) #[] #[]] ++ lb := by apply Array.ext'; simp
      have hc := callsIn_fw none (n - 1) (hcall g W1 hm1)
      rw [e] at hc
      refine hc.mono fun e w' ⟨v, L2, h1, h2, h3⟩ => ?_
      subst h1
      rcases h3 with ⟨xs, L', hfin, rfl, hI⟩ | ⟨cj, L', rfl, hI⟩
      · have hlp := h2.at_ (i := 0) rfl
        have hpd : (rec .ready none).pending = none := by rw [hrec]
        obtain ⟨w4, hen, hm4⟩ : ∃ w4, (Instr.endLoop l).run P w' = .ok (rec .ready none).pending w4 ∧ Mem g ((d, .deferred (some [])) :: L') w4 :=
          ⟨_, run_endLoop (P := P) hlp (by rw [hrec]; simp), (h2.putObj (i := 0) rfl (.loop { rec .ready none with state := .exhausted })).sublist (.cons _ (.refl _))⟩
        rw [hpd] at hen
        exact ⟨none, w4, hen, ⟨s, markD d :: D, (d, .deferred (some [])) :: L'⟩, ⟨ha.size, ha.slots, by show markD d :: a.defers = _; rw [ha.defers], hm4⟩, hdone d xs L' hfin hI⟩
      · have hlp := h2.at_ (i := 0) rfl
        have hpd : (rec .done (some cj)).pending = some cj := by rw [hrec]
        obtain ⟨w4, hen, hm4⟩ : ∃ w4, (Instr.endLoop l).run P w' = .ok (rec .done (some cj)).pending w4 ∧ Mem g ((d, .deferred (some [])) :: L') w4 :=
          ⟨_, run_endLoop (P := P) hlp (by rw [hrec]; simp), (h2.putObj (i := 0) rfl (.loop { rec .done (some cj) with state := .exhausted })).sublist (.cons _ (.refl _))⟩
        rw [hpd] at hen
        exact ⟨some cj, w4, hen, hstop d cj L' hI _ _ ⟨ha.size, ha.slots, by show markD d :: a.defers = _; rw [ha.defers], hm4⟩⟩
    · -- one round
      rintro pre y L1 hdom ⟨L', rfl, hI⟩ g2 w2 m hm
      have hy := run_yield (P := P) (w := w2) (args := (enc y).toArray) (hm.at_ (i := 0) rfl) (by rw [hrec]; simpa using hps y)
      have e1 : (rec .ready none).fn = fn ∧ (rec .ready none).assign = assign ∧ (rec .ready none).body = body ∧ (rec .ready none).params = ps ∧ (rec .ready none).tmps = a.tmps := by rw [hrec]; exact ⟨rfl, rfl, rfl, rfl, rfl⟩
      rw [e1.1, e1.2.1, e1.2.2.1, e1.2.2.2.1, e1.2.2.2.2] at hy
      refine ⟨fn, _, assign, body, hy, roundIn_of_wpIn trivial ?_⟩
      have hz := holds_zip (g := g2) (w := w2) (N := N) (D := []) (L := (l, .loop (rec .ready none)) :: (d, .deferred (some [])) :: L') ps.toList (enc y) s { tmps := a.tmps, defers := [] } hpn ⟨ha.size, ha.slots, rfl, hm⟩
      have e2 : (ps.toList.zip (enc y)).foldl (fun t (q : Nat × Value) => t.setIfInBounds q.1 q.2) a.tmps = (ps.zip (enc y).toArray).foldl (fun tmps (q : Nat × Value) => tmps.setIfInBounds q.1 q.2) a.tmps := by
        rw [← Array.foldl_toList, Array.toList_zip]
      simp only [e2] at hz
      refine Go.wpIn_mono (hbody g2 m l d pre y L' hdom hI (.loop (rec .ready none)) (.deferred (some [])) ⟨_, rfl⟩ _ w2 hz) (fun e a3 w3 hl3 => ?_)
      cases e with
      | normal =>
        obtain ⟨σ', hH, _, s', A, B, rfl, hnext⟩ := hl3
        have hat : (A ++ (l, Obj.loop (rec .ready none)) :: B)[A.length]? = some (l, .loop (rec .ready none)) := by simp
        have hlp := hH.mem.at_ hat
        have hb := run_beginRound (P := P) hlp (by rw [hrec])
        refine ⟨_, hb, ?_⟩
        have hm4 := hH.mem.putObj hat (.loop { rec .ready none with state := .busy })
        have e3 : (A ++ (l, Obj.loop (rec .ready none)) :: B).set A.length (l, .loop { rec .ready none with state := .busy }) = A ++ (l, .loop { rec .ready none with state := .busy }) :: B := by simp
        simp only [e3] at hm4
        have hH4 : Holds g2 N ⟨s', [], A ++ (l, .loop { rec .ready none with state := .busy }) :: B⟩ a3 _ := ⟨hH.size, hH.slots, hH.defers, hm4⟩
        refine Go.wpIn_mono (hnext _ ⟨_, rfl⟩ _ _ hH4) (fun e a5 w5 hl5 => ?_)
        have fin : ∀ (jump : Option Code) (L'' : List (Nat × Obj)), Mem g2 ((l, .loop { rec .ready none with state := .busy }) :: (d, .deferred (some [])) :: L'') w5 →
            ∃ w6, (Instr.endRound l jump).run P w5 = .ok (.bool jump.isNone) w6 ∧ Mem g2 ((l, .loop (rec (if jump.isNone then .ready else .done) jump)) :: (d, .deferred (some [])) :: L'') w6 := fun jump L'' hm5 => by
          have h1 := run_endRound (P := P) jump (hm5.at_ (i := 0) rfl)
          have h2 := hm5.putObj (i := 0) rfl (.loop { ({ rec .ready none with state := .busy } : Loop) with state := if jump.isNone then .ready else .done, pending := jump })
          refine ⟨_, h1, ?_⟩
          have e4 : ({ ({ rec .ready none with state := .busy } : Loop) with state := if jump.isNone then .ready else .done, pending := jump } : Loop) = rec (if jump.isNone then .ready else .done) jump := by rw [hrec]
          rw [e4] at h2 ⊢
          exact h2
        cases e with
        | normal =>
          obtain ⟨σ'', h1, L'', h2, h3⟩ := hl5
          obtain ⟨w6, h4, h5⟩ := fin none L'' (h1.mem.sublist h2)
          exact ⟨_, w6, h4, _, _, rfl, h5, .inl ⟨rfl, L'', rfl, h3⟩⟩
        | ret =>
          obtain ⟨σ'', h1, L'', h2, h3⟩ := hl5
          obtain ⟨w6, h4, h5⟩ := fin (some .ret) L'' (h1.mem.sublist h2)
          exact ⟨_, w6, h4, _, _, rfl, h5, .inr ⟨rfl, .ret, L'', rfl, h3⟩⟩
        | exit id =>
          obtain ⟨σ'', h1, L'', h2, h3⟩ := hl5
          obtain ⟨w6, h4, h5⟩ := fin (some (.exit id)) L'' (h1.mem.sublist h2)
          exact ⟨_, w6, h4, _, _, rfl, h5, .inr ⟨rfl, .exit id, L'', rfl, h3⟩⟩
        | goto t =>
          obtain ⟨σ'', h1, L'', h2, h3⟩ := hl5
          obtain ⟨w6, h4, h5⟩ := fin (some (.goto t)) L'' (h1.mem.sublist h2)
          exact ⟨_, w6, h4, _, _, rfl, h5, .inr ⟨rfl, .goto t, L'', rfl, h3⟩⟩
        | panic ch => obtain ⟨_, _, h⟩ := hl5; exact h.elim
        | outgrown => obtain ⟨_, _, h⟩ := hl5; exact h.elim
      | panic ch => obtain ⟨_, _, h, _⟩ := hl3; cases h
      | ret => obtain ⟨_, _, h, _⟩ := hl3; cases h
      | exit id => obtain ⟨_, _, h, _⟩ := hl3; cases h
      | goto t => obtain ⟨_, _, h, _⟩ := hl3; cases h
      | outgrown => obtain ⟨_, _, h, _⟩ := hl3; cases h
end Go.Proofs.YtncgndcepoicbaaGreat
namespace Go.Proofs.YtncgndcepoicbaaGreat
open Go.RowKit
class TRow (P : Program) (e : TypeId) (z : outParam (Array Value)) (size bytes : outParam Nat) : Prop where
  h : ∃ i zz, P.info? e = some i ∧ i.zero = some zz ∧ zz.cells = z ∧ i.size = size ∧ i.bytes = bytes ∧ z.size = size
theorem TRow.of {P : Program} {e : TypeId} {zz : Value} {z : Array Value} {size bytes : Nat} (hz : ∀ w, (zeroValue e).run P w = .ok zz w) (hzz : zz.cells = z) (hr : (P.info? e).map (fun i => (i.size, i.bytes)) = some (size, bytes)) (hs : z.size = size) : TRow P e z size bytes := ⟨by
  obtain ⟨i, h1, h2⟩ := Option.map_eq_some_iff.1 hr
  simp only [Prod.mk.injEq] at h2
  refine ⟨i, zz, h1, ?_, hzz, h2.1, h2.2, hs⟩
  have := hz default
  simp only [zeroValue, typeInfo, Sem.run_bind] at this
  simp [h1] at this
  cases h : i.zero with
  | none => rw [h] at this; cases this
  | some u => rw [h] at this; simp at this; rw [this]⟩
section
variable {c : Cx} {s : List (Nat × Value)} {L : List (Nat × Obj)} {o : Oper}
theorem Qt_extract {x : Operand} {k : Nat} {vs : Array Value} {v : Value} (ho : o.op = .extract x k) (hx : ev s x = some (.tuple vs) := by exact rfl) (hv : vs[k]? = some v := by exact rfl) : Qt c s L o v :=
  ⟨(fun cc => by simp [ho]), fun ρ hρ w _ => by simp [execOp, ho, hρ x _ hx, Instr.extract, hv]⟩
def slOff (cap l off size : Nat) : Nat := if cap = l then off else off + l * size
theorem addr_add (b o n : Nat) : (⟨b, o, none⟩ : Addr).add n = ⟨b, o + n, none⟩ := Addr.add_mid b o n
theorem elem_of {P : Program} {t E : TypeId} (h : P.underlying t = some (.slice E)) : P.elem t = E := by simp [Program.elem, h]
theorem sliced_eq (g off l h m size : Nat) : sliced (some ⟨g, off, none⟩) l h m size = .slice (some ⟨g, slOff m l off size, none⟩) (h - l) (m - l) := by
  simp only [sliced, slOff]
  split <;> simp [addr_add]
theorem Qt_sliceL {t E n : Nat} [hu : TUnd c.P t (.slice E)] [hs : TSize c.P E n] {x lo : Operand} {g off len cap : Nat} {k : IntKind} {l : Int} (ho : o.op = .slice t x (some lo) none none) (hx : ev s x = some (.slice (some ⟨g, off, none⟩) len cap) := by exact rfl) (hl : ev s lo = some (.int k l) := by exact rfl) (h0 : 0 ≤ l := by first | with_reducible assumption | decide | assumption | (simp; done) | (simp; omega) | omega) (h1 : l ≤ len := by first | with_reducible assumption | decide | assumption | (simp; done) | (simp; omega) | omega) :
    Qt c s L o (.slice (some ⟨g, slOff cap l.toNat off n, none⟩) (len - l.toNat) (cap - l.toNat)) :=
  ⟨(fun cc => by simp [ho]), fun ρ hρ w _ => by
    have hut : c.P.underlying t = some (.slice (c.P.elem t)) := by rw [elem_of hu.h]; exact hu.h
    have h2 := run_slice_l (P := c.P) w t (some ⟨g, off, none⟩) len cap hut k l h0 h1
    have h3 := run_sliceAt_slice (P := c.P) w t (.slice (some ⟨g, off, none⟩) len cap) (some (.int k l)) none none hut
    rw [elem_of hu.h, hs.h] at h2
    simp only [Result.andThen, sliced_eq] at h2
    simp [execOp, ho, hρ x _ hx, hρ lo _ hl, h3, h2]⟩
end
structure SlAt (L : List (Nat × Obj)) (i g off n cap E size : Nat) (cur : Array Value) : Prop where
  at_ : L[i]? = some (g, .cells cur E (0, 0))
  le : n ≤ cap
  max : cap ≤ maxLen
  fit : off + cap * size ≤ cur.size
theorem OW_build0 {c : Cx} {o : Oper} {Kn : St → Prop} {K : Exit → St → Prop} {s : List (Nat × Value)} {D : List Deferred} {L : List (Nat × Obj)} {t E n d : Nat} [hu : TUnd c.P t (.slice E)] [hs : TSize c.P E n] (ho : o.op = .buildSlice t 0 #[]) (hdst : o.dst = some d := by exact rfl) (hd : Nat.blt d c.N = true := by exact rfl)
    (hk : ∀ b, Kn ⟨(d, .slice (some ⟨b, 0, none⟩) 0 0) :: s, D, (b, .cells #[] E) :: L⟩) : OW c o Kn K ⟨s, D, L⟩ := fun a w ha => by
  refine ⟨fun _ _ => trivial, ?_⟩
  have hr : (execOp a.eval o).run c.P w = .ok (.value (.slice (some ⟨w.heap.size, 0, none⟩) 0 0)) (w.alloc (.cells #[] E)) := by
    simp [execOp, ho, Instr.buildSlice, run_underlying hu.h, hs.h, Instr.fill, newRow]
    rw [Array.eq_empty_of_size_eq_zero (xs := Array.map (fun _ => (default : Value)) (Array.range 0)) (by simp)]
  rw [Oper.semAt_eq _ _ _ (by rw [ho]; intro cc h; cases h), hr]
  refine ⟨_, ?_, hk w.heap.size⟩
  rw [hdst]
  exact (ha.mem' (ha.mem.alloc _)).put (d := some d) hd _
theorem OW_build1 {c : Cx} {o : Oper} {Kn : St → Prop} {K : Exit → St → Prop} {s : List (Nat × Value)} {D : List Deferred} {L : List (Nat × Obj)} {t E n by_ d : Nat} {z vs : Array Value} {x : Operand} {v : Value} [hu : TUnd c.P t (.slice E)] [hrow : TRow c.P E z n by_] (ho : o.op = .buildSlice t 1 #[(0, x)]) (hdst : o.dst = some d := by exact rfl) (hx : ev s x = some v := by exact rfl) (hvs : cellsV v = some vs := by exact rfl) (hn : vs.size = n := by first | with_reducible assumption | rfl | assumption) (hn0 : Nat.ble 1 n = true := by exact rfl) (hn1 : Nat.ble n 16777216 = true := by exact rfl) (hd : Nat.blt d c.N = true := by exact rfl)
    (hk : ∀ b, Kn ⟨(d, .slice (some ⟨b, 0, none⟩) 1 1) :: s, D, (b, .cells vs E) :: L⟩) : OW c o Kn K ⟨s, D, L⟩ := fun a w ha => by
  refine ⟨fun _ _ => trivial, ?_⟩
  obtain ⟨i, zz, h1, h2, h3, h4, h5, h6⟩ := hrow.h
  have hn0 := Nat.le_of_ble_eq_true hn0
  have hn1 := Nat.le_of_ble_eq_true hn1
  obtain rfl := cellsV_eq hvs
  have hfold := fold_put v.cells.toList 0 0 ((Array.range (1 * n)).map fun j => z[j % z.size]!) (by simp; omega)
  have hz0 : (Array.map (fun j => z[j % z.size]!) (Array.range (1 * n))).size = n := by simp
  have he : (v.cells.zipIdx.foldl (fun (cs : Array Value) (p : Value × Nat) => cs.setIfInBounds (0 + p.2) p.1) ((Array.range (1 * n)).map fun j => z[j % z.size]!)) = v.cells := by
    rw [← Array.foldl_toList, Array.toList_zipIdx, hfold]
    simp only [Nat.zero_add, Array.toArray_toList]
    exact putR_all _ _ (by rw [hz0, hn])
  have hr : (execOp a.eval o).run c.P w = .ok (.value (.slice (some ⟨w.heap.size, 0, none⟩) 1 1)) (w.alloc (.cells v.cells E)) := by
    simp only [execOp, ho, Instr.buildSlice, Sem.run_bind, run_underlying hu.h, Result.andThen_ok, sizeOf, typeInfo, zeroValue]
    simp [h1, h2, h3, h4, ha.ev hx, Instr.fill, hn]
    simp only [Nat.zero_add, Nat.one_mul, Array.size_zipIdx, hn] at he
    rw [if_neg (by omega), if_neg (by omega), he]
    simp [newRow]
  rw [Oper.semAt_eq _ _ _ (by rw [ho]; intro cc h; cases h), hr]
  refine ⟨_, ?_, hk w.heap.size⟩
  rw [hdst]
  exact (ha.mem' (ha.mem.alloc _)).put (d := some d) hd _
theorem extract_left (A B : Array Value) : (A ++ B).extract 0 A.size = A := by
  apply Array.ext_getElem?
  intro q
  rw [Array.getElem?_extract, Array.getElem?_append, Array.size_append]
  by_cases h : q < A.size
  · rw [if_pos (by omega), if_pos (by omega), Nat.zero_add]
  · rw [if_neg (by omega), Array.getElem?_eq_none (by omega)]
theorem cells_at {g w : World} {L : List (Nat × Obj)} (h : Mem g L w) {i b : Nat} {cs : Array Value} {E : TypeId} {fr : Nat × Nat} (hi : L[i]? = some (b, .cells cs E fr)) (off k : Nat) : ∀ j v, (cs.extract off (off + k)).toList[j]? = some v → w.cell? ((⟨b, off, none⟩ : Addr).add j) = some v := by
  intro j v hv
  rw [Addr.add_mid, cell_of_row w b (off + j) cs E fr (h.at_ hi)]
  rw [Array.getElem?_toList, Array.getElem?_extract] at hv
  split at hv
  · exact hv
  · cases hv
end Go.Proofs.YtncgndcepoicbaaGreat
