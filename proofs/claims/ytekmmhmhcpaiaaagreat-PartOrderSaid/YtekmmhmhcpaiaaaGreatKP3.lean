/-
  A part of what the last of these texts needs; by itself it proves no statement.
-/
import Derived.Test.YtekmmhmhcpaiaaaGreatKP2
namespace Go.Proofs.YtekmmhmhcpaiaaaGreat
open Go.RowKit
inductive T (α : Type) where
  | e
  | n (l : T α) (v : Option α) (r : T α)
def T.get {α : Type} : T α → Nat → Option α
  | .e, _ => none
  | .n l v r, k => match Nat.beq k 0 with
    | true => v
    | false => match Nat.beq (Nat.mod k 2) 1 with
      | true => l.get (Nat.div k 2)
      | false => r.get (Nat.sub (Nat.div k 2) 1)
def T.left {α : Type} : T α → T α
  | .e => .e
  | .n l _ _ => l
def T.right {α : Type} : T α → T α
  | .e => .e
  | .n _ _ r => r
def T.val {α : Type} : T α → Option α
  | .e => none
  | .n _ v _ => v
def T.put {α : Type} : Nat → T α → Nat → Option α → T α
  | 0, _, _, _ => .e
  | f + 1, t, k, v => match Nat.beq k 0 with
    | true => .n t.left v t.right
    | false => match Nat.beq (Nat.mod k 2) 1 with
      | true => .n (T.put f t.left (Nat.div k 2) v) t.val t.right
      | false => .n t.left t.val (T.put f t.right (Nat.sub (Nat.div k 2) 1) v)
theorem T.get_zero {α : Type} (t : T α) : t.get 0 = t.val := by cases t <;> rfl
theorem T.get_odd {α : Type} (t : T α) (j : Nat) : t.get (2 * j + 1) = t.left.get j := by
  cases t with
  | e => rfl
  | n l v r =>
    have h1 : Nat.beq (2 * j + 1) 0 = false := Bool.eq_false_iff.2 fun h => by have := Nat.eq_of_beq_eq_true h; omega
    have h2 : Nat.mod (2 * j + 1) 2 = 1 := by show (2 * j + 1) % 2 = 1; omega
    have h3 : Nat.div (2 * j + 1) 2 = j := by show (2 * j + 1) / 2 = j; omega
    simp only [T.get, h1, h2, h3, T.left, Nat.beq_refl]
theorem T.get_even {α : Type} (t : T α) (j : Nat) : t.get (2 * j + 2) = t.right.get j := by
  cases t with
  | e => rfl
  | n l v r =>
    have h1 : Nat.beq (2 * j + 2) 0 = false := Bool.eq_false_iff.2 fun h => by have := Nat.eq_of_beq_eq_true h; omega
    have h2 : Nat.mod (2 * j + 2) 2 = 0 := by show (2 * j + 2) % 2 = 0; omega
    have h3 : Nat.sub (Nat.div (2 * j + 2) 2) 1 = j := by show (2 * j + 2) / 2 - 1 = j; omega
    simp only [T.get, h1, h2, h3, T.right]
    try rfl
theorem nat_cases (k : Nat) : k = 0 ∨ (∃ j, k = 2 * j + 1) ∨ ∃ j, k = 2 * j + 2 := by
  rcases Nat.lt_or_ge k 1 with h | h
  · exact .inl (by omega)
  · by_cases hk : k % 2 = 1
    · exact .inr (.inl ⟨k / 2, by omega⟩)
    · exact .inr (.inr ⟨k / 2 - 1, by omega⟩)
theorem T.put_zero {α : Type} (f : Nat) (t : T α) (v : Option α) : T.put (f + 1) t 0 v = .n t.left v t.right := rfl
theorem T.put_odd {α : Type} (f : Nat) (t : T α) (j : Nat) (v : Option α) : T.put (f + 1) t (2 * j + 1) v = .n (T.put f t.left j v) t.val t.right := by
  have h1 : Nat.beq (2 * j + 1) 0 = false := Bool.eq_false_iff.2 fun h => by have := Nat.eq_of_beq_eq_true h; omega
  have h2 : Nat.mod (2 * j + 1) 2 = 1 := by show (2 * j + 1) % 2 = 1; omega
  have h3 : Nat.div (2 * j + 1) 2 = j := by show (2 * j + 1) / 2 = j; omega
  simp only [T.put, h1, h2, h3]
  try rfl
theorem T.put_even {α : Type} (f : Nat) (t : T α) (j : Nat) (v : Option α) : T.put (f + 1) t (2 * j + 2) v = .n t.left t.val (T.put f t.right j v) := by
  have h1 : Nat.beq (2 * j + 2) 0 = false := Bool.eq_false_iff.2 fun h => by have := Nat.eq_of_beq_eq_true h; omega
  have h2 : Nat.mod (2 * j + 2) 2 = 0 := by show (2 * j + 2) % 2 = 0; omega
  have h3 : Nat.sub (Nat.div (2 * j + 2) 2) 1 = j := by show (2 * j + 2) / 2 - 1 = j; omega
  simp only [T.put, h1, h2, h3]
  try rfl
theorem T.get_put {α : Type} : ∀ (f : Nat) (t : T α) (k j : Nat) (v : Option α) (u : α), (T.put f t k v).get j = some u → (j = k ∧ v = some u) ∨ (j ≠ k ∧ t.get j = some u)
  | 0, _, _, _, _, _, h => by cases h
  | f + 1, t, k, j, v, u, h => by
    rcases nat_cases k with rfl | ⟨k, rfl⟩ | ⟨k, rfl⟩
    · rw [T.put_zero] at h
      rcases nat_cases j with rfl | ⟨j, rfl⟩ | ⟨j, rfl⟩
      · exact .inl ⟨rfl, h⟩
      · rw [T.get_odd] at h ⊢; exact .inr ⟨by omega, h⟩
      · rw [T.get_even] at h ⊢; exact .inr ⟨by omega, h⟩
    · rw [T.put_odd] at h
      rcases nat_cases j with rfl | ⟨j, rfl⟩ | ⟨j, rfl⟩
      · rw [T.get_zero] at h ⊢; exact .inr ⟨by omega, h⟩
      · rw [T.get_odd] at h ⊢
        rcases T.get_put f t.left k j v u h with ⟨rfl, h1⟩ | ⟨h1, h2⟩
        · exact .inl ⟨rfl, h1⟩
        · exact .inr ⟨by omega, h2⟩
      · rw [T.get_even] at h ⊢; exact .inr ⟨by omega, h⟩
    · rw [T.put_even] at h
      rcases nat_cases j with rfl | ⟨j, rfl⟩ | ⟨j, rfl⟩
      · rw [T.get_zero] at h ⊢; exact .inr ⟨by omega, h⟩
      · rw [T.get_odd] at h ⊢; exact .inr ⟨by omega, h⟩
      · rw [T.get_even] at h ⊢
        rcases T.get_put f t.right k j v u h with ⟨rfl, h1⟩ | ⟨h1, h2⟩
        · exact .inl ⟨rfl, h1⟩
        · exact .inr ⟨by omega, h2⟩
def T.set {α : Type} (t : T α) (k : Nat) (v : α) : T α := T.put 40 t k (some v)
theorem T.get_set {α : Type} {t : T α} {k j : Nat} {v u : α} (h : (t.set k v).get j = some u) : (j = k ∧ v = u) ∨ (j ≠ k ∧ t.get j = some u) := by
  rcases T.get_put 40 t k j (some v) u h with ⟨h1, h2⟩ | h1
  · exact .inl ⟨h1, Option.some.inj h2⟩
  · exact .inr h1
attribute [local irreducible] T.put T.set
inductive WaitsOn (ops : List Oper) : Nat → Nat → Prop
  | one {j : Nat} {o : Oper} {e : Edge} (hj : ops[j]? = some o) (he : e ∈ o.after) (hb : Region.binds .any e = true) : WaitsOn ops j e.on
  | more {j k : Nat} {o : Oper} {e : Edge} (hj : ops[j]? = some o) (he : e ∈ o.after) (hb : Region.binds .any e = true) (h : WaitsOn ops e.on k) : WaitsOn ops j k
def orE (M : T Nat) : List Edge → Nat
  | [] => 0
  | e :: r => match Region.binds .any e with
    | true => Nat.lor (Nat.lor (Nat.shiftLeft 1 e.on) ((M.get e.on).getD 0)) (orE M r)
    | false => orE M r
def maskL : List Oper → Nat → T Nat → T Nat
  | [], _, M => M
  | o :: r, j, M => maskL r (Nat.succ j) (M.set j (orE M o.after.toList))
theorem orE_ok {ops : List Oper} {M : T Nat} (hM : ∀ j n, M.get j = some n → ∀ k, n.testBit k = true → WaitsOn ops j k) {j : Nat} {o : Oper} (hj : ops[j]? = some o) : ∀ (l : List Edge), (∀ e ∈ l, e ∈ o.after) → ∀ k, (orE M l).testBit k = true → WaitsOn ops j k
  | [], _, k, h => by simp [orE] at h
  | e :: r, hl, k, h => by
    have hr := orE_ok hM hj r (fun e he => hl e (List.mem_cons_of_mem _ he)) k
    simp only [orE] at h
    split at h
    · rename_i hb
      have h : (((1 <<< e.on) ||| ((M.get e.on).getD 0)) ||| orE M r).testBit k = true := h
      rw [Nat.testBit_or, Nat.testBit_or] at h
      simp only [Bool.or_eq_true] at h
      rcases h with (h | h) | h
      · have : k = e.on := by
          rw [Nat.testBit_shiftLeft] at h
          simp only [Bool.and_eq_true, decide_eq_true_eq] at h
          have h2 := h.2
          rcases Nat.lt_or_ge e.on k with hl | hl
          · obtain ⟨q, hq⟩ : ∃ q, k - e.on = q + 1 := ⟨k - e.on - 1, by omega⟩
            rw [hq] at h2
            simp [Nat.testBit_succ] at h2
          · omega
        subst this
        exact .one hj (hl e List.mem_cons_self) hb
      · cases hg : M.get e.on with
        | none => rw [hg] at h; simp at h
        | some n => rw [hg] at h; exact .more hj (hl e List.mem_cons_self) hb (hM _ _ hg k h)
      · exact hr h
    · exact hr h
theorem maskL_ok {ops : List Oper} : ∀ (l : List Oper) (j : Nat) (M : T Nat), (∀ i o, l[i]? = some o → ops[j + i]? = some o) → (∀ j n, M.get j = some n → ∀ k, n.testBit k = true → WaitsOn ops j k) → ∀ q n, (maskL l j M).get q = some n → ∀ k, n.testBit k = true → WaitsOn ops q k
  | [], _, _, _, hM, q, n, h => hM q n h
  | o :: r, j, M, hl, hM, q, n, h => by
    refine maskL_ok r (Nat.succ j) _ (fun i o' h' => ?_) (fun j' n' h' k hk => ?_) q n h
    · have := hl (i + 1) o' (by simpa using h')
      rwa [show Nat.succ j + i = j + (i + 1) by omega]
    · rcases T.get_set h' with ⟨rfl, rfl⟩ | ⟨_, h''⟩
      · exact orE_ok hM (hl 0 o rfl) _ (fun e he => by simpa using he) k hk
      · exact hM _ _ h'' k hk
section
variable {c : Cx} {ops : Array Oper}
def Calm (c : Cx) (ops : Array Oper) (Ls : List (Nat × Obj)) (o : Oper) (v : Value) (a : Act) : Prop :=
  (∀ cc, o.op ≠ .defer cc) ∧ ((Region.wanted o (yielded ops a.tmps) = true ∧ ∀ w, Mem c.g Ls w → (execOp a.eval o).run c.P w = .ok (.value v) w) ∨ (Region.wanted o (yielded ops a.tmps) = false ∧ v = undef))
def AnyH (c : Cx) (ops : Array Oper) (K : Exit → St → Prop) (Ls : List (Nat × Obj)) (m : Nat) : Nat → Array Bool → Act → World → Prop
  | 0, listed, a, w => Region.ready .any ops listed = [] ∧ liftO c K .normal a w
  | fuel + 1, listed, a, w =>
    (Region.ready .any ops listed = [] → liftO c K .normal a w) ∧
    ∀ i ∈ Region.ready .any ops listed, wpOpIn (Fw c.r) c.n c.P ops (liftO c K) i (fun a' w' => (i < m → Mem c.g Ls w') ∧ AnyH c ops K Ls m fuel (listed.setIfInBounds i true) a' w') a w
theorem AnyH.any {K : Exit → St → Prop} {Ls : List (Nat × Obj)} {m : Nat} : ∀ (fuel : Nat) (listed : Array Bool) (a : Act) (w : World), AnyH c ops K Ls m fuel listed a w → wpAnyIn (Fw c.r) c.n c.P .any ops (liftO c K) fuel listed a w
  | 0, _, _, _, h => h
  | fuel + 1, _, _, _, h => ⟨h.1, fun i hi => wpOpIn_mono (fun a' w' h' => AnyH.any fuel _ a' w' h'.2) (h.2 i hi)⟩
theorem lift_panic_put {K : Exit → St → Prop} {ch : List PanicEntry} {a : Act} {w : World} {d : Option Nat} {v : Value} (h : liftO c K (.panic ch) (a.put d v) w) : liftO c K (.panic ch) a w := by
  obtain ⟨D, L, h1, h2⟩ := h
  refine ⟨D, L, ⟨?_, (fun t u hu => by cases hu), ?_, h1.mem⟩, h2⟩
  · have := h1.size
    cases d with
    | none => exact this
    | some d => simpa [Act.put] using this
  · have := h1.defers
    cases d <;> exact this
theorem Calm.keep {Ls : List (Nat × Obj)} {oi oj : Oper} {v : Value} {a : Act} (h : Calm c ops Ls oi v a) (hsi : ∀ cs b, oi.op ≠ .select cs b) (hap : ∀ d, oj.dst = some d → d ∉ oi.looksAt ops) (u : Value) : Calm c ops Ls oi v (a.put oj.dst u) := by
  unfold Calm at *
  rw [execOp_put oi hsi a oj.dst u hap, wanted_put oi a oj.dst u hap]
  exact h
set_option maxHeartbeats 4000000 in
theorem wpOpIn_calm {K : Exit → St → Prop} {Ls : List (Nat × Obj)} {j : Nat} {oi oj : Oper} {v : Value} (hj : ops[j]? = some oj) (hap : oi.apart ops oj = true)
    (hsi : ∀ cs b, oi.op ≠ .select cs b) (hsj : ∀ cs b, oj.op ≠ .select cs b) {Kn : Act → World → Prop} {a : Act} {w : World}
    (hy : Calm c ops Ls oi v a) (h : wpOpIn (Fw c.r) c.n c.P ops (liftO c K) j Kn (a.put oi.dst v) w) :
    wpOpIn (Fw c.r) c.n c.P ops (liftO c K) j (fun a' w' => Calm c ops Ls oi v a' ∧ Kn (a'.put oi.dst v) w') a w := by
  obtain ⟨h1, h2, h3⟩ := Oper.apart_spec hap
  have keep : ∀ u, Calm c ops Ls oi v (a.put oj.dst u) := fun u => hy.keep hsi h3 u
  have hcomm : ∀ u, (a.put oi.dst v).put oj.dst u = (a.put oj.dst u).put oi.dst v := fun u => Act.put_comm a v u h2
  unfold wpOpIn at *
  simp only [hj] at *
  rw [wanted_put oj a oi.dst v h1, about_put oj w a oi.dst v h1] at h
  split
  · rename_i hw
    simp only [hw, if_true] at h
    unfold Oper.wpIn at *
    refine ⟨fun _ _ => trivial, ?_⟩
    have h := h.2
    have he : oj.semAt (Fw c.r).round (a.put oi.dst v).eval = oj.semAt (Fw c.r).round a.eval := by
      have hx := execOp_put oj hsj a oi.dst v h1
      cases hr : (Fw c.r).round with
      | none => exact hx
      | some l =>
        unfold Oper.semAt
        split
        · rename_i l' cc e1 e2
          have hre : resolve (a.put oi.dst v).eval cc oj.type = resolve a.eval cc oj.type := resolve_congr cc oj.type fun x hx => Act.eval_put fun d hd hxd => h1 d hd (by
            subst hxd
            exact List.mem_append_left _ (List.mem_filterMap.2 ⟨.tmp d, by rw [e2]; simpa [Op.operands] using hx, rfl⟩))
          rw [hre]
        · exact hx
    rw [he] at h
    generalize (oj.semAt (Fw c.r).round a.eval).run c.P w = r at *
    cases r with
    | ok x w' =>
      cases x <;> simp only [Oper.uponIn] at h ⊢
      case value u => exact ⟨keep u, by rw [← hcomm]; exact h⟩
      case skip => exact ⟨keep _, by rw [← hcomm]; exact h⟩
      case defer d =>
        refine ⟨?_, ?_⟩
        · have hd : Calm c ops Ls oi v { a with defers := d :: a.defers } := hy
          exact hd.keep hsi h3 _
        · rw [← Act.put_comm _ v undef h2, ← Act.put_defers]
          exact h
      case enter f args =>
        refine ⟨h.1, CallsIn.mono h.2 fun e w'' he => ?_⟩
        cases e with
        | returned u => exact ⟨keep u, by rw [← hcomm]; exact he⟩
        | panicked ch => exact lift_panic_put he
        | outgrown => exact he
      case row row args => exact ⟨h.1, RowsIn.mono h.2 fun u w'' he => ⟨keep u, by rw [← hcomm]; exact he⟩⟩
      case round l f tmps assign body =>
        refine ⟨h.1, RoundIn.mono h.2 fun e w'' he => ?_⟩
        cases e with
        | returned u => exact ⟨keep u, by rw [← hcomm]; exact he⟩
        | panicked ch => exact lift_panic_put he
        | outgrown => exact he
    | halt x w' =>
      cases x <;> simp only [Oper.uponIn] at h ⊢
      case panic u => exact lift_panic_put h
  · rename_i hw
    simp only [hw] at h
    exact ⟨fun _ _ => trivial, keep _, by rw [← hcomm]; exact h.2⟩
theorem Calm.op {K : Exit → St → Prop} {Ls : List (Nat × Obj)} {i : Nat} {o : Oper} {v : Value} {a : Act} {w : World} (hi : ops[i]? = some o) (hy : Calm c ops Ls o v a) (hm : Mem c.g Ls w) {Kn : Act → World → Prop} (h : Kn (a.put o.dst v) w) :
    wpOpIn (Fw c.r) c.n c.P ops (liftO c K) i Kn a w := by
  unfold wpOpIn
  simp only [hi]
  rcases hy.2 with ⟨hw, hv⟩ | ⟨hw, rfl⟩
  · simp only [hw, if_true, Oper.wpIn]
    rw [Oper.semAt_eq _ _ _ hy.1, hv w hm]
    exact ⟨fun _ _ => trivial, h⟩
  · simp only [hw, Bool.false_eq_true, if_false]
    exact ⟨fun _ _ => trivial, h⟩
def lateOk (ops : Array Oper) (m : Nat) : Bool :=
  (List.range ops.size).all fun j => decide (j < m) || match ops[j]? with
    | some o => (List.range m).all fun k => o.after.any fun e => Region.binds .any e && e.on == k
    | none => true
theorem lateOk_spec {m : Nat} (h : lateOk ops m = true) {j k : Nat} {o : Oper} (hj : ops[j]? = some o) (hm : m ≤ j) (hk : k < m) : ∃ e ∈ o.after, Region.binds .any e = true ∧ e.on = k := by
  simp only [lateOk, List.all_eq_true, List.mem_range] at h
  have h1 := h j (Array.getElem?_eq_some_iff.1 hj).1
  simp only [hj, Bool.or_eq_true, decide_eq_true_eq, List.all_eq_true, List.mem_range] at h1
  rcases h1 with h1 | h1
  · omega
  · have h3 := h1 k hk
    rw [← Array.any_toList, List.any_eq_true] at h3
    obtain ⟨e, he, h2⟩ := h3
    simp only [Bool.and_eq_true, beq_iff_eq] at h2
    exact ⟨e, by simpa using he, h2.1, h2.2⟩
set_option maxHeartbeats 4000000 in
theorem AnyH.first {K : Exit → St → Prop} {Ls : List (Nat × Obj)} {m : Nat} {i : Nat} {oi : Oper} {v : Value} (hi : ops[i]? = some oi) (hsel : ∀ (j : Nat) (o : Oper) cs b, ops[j]? = some o → o.op ≠ .select cs b) (him : i < m) (hlate : lateOk ops m = true) :
    ∀ (fuel : Nat) (listed : Array Bool) (a : Act) (w : World),
      (∀ j oj, ops[j]? = some oj → j ≠ i → listed.getD j true = false → (∀ e ∈ oj.after, Region.binds .any e = true → e.on ≠ i) → oi.apart ops oj = true) →
      i ∈ Region.ready .any ops listed → Calm c ops Ls oi v a → Mem c.g Ls w →
      AnyH c ops K Ls m fuel (listed.setIfInBounds i true) (a.put oi.dst v) w → AnyH c ops K Ls m (fuel + 1) listed a w := by
  intro fuel
  induction fuel with
  | zero =>
    intro listed a w _ hr hy hS H
    refine ⟨fun h => (by rw [h] at hr; cases hr), fun j hj => ?_⟩
    by_cases hji : j = i
    · subst hji; exact hy.op hi hS ⟨fun _ => hS, H⟩
    · have := ready_mono hj hji
      rw [H.1] at this
      cases this
  | succ fuel ih =>
    intro listed a w hfree hr hy hS H
    refine ⟨fun h => (by rw [h] at hr; cases hr), fun j hj => ?_⟩
    by_cases hji : j = i
    · subst hji; exact hy.op hi hS ⟨fun _ => hS, H⟩
    · have h1 := H.2 j (ready_mono hj hji)
      obtain ⟨hjun, oj, hoj, hall⟩ := mem_ready.1 hj
      have hnot : ∀ e ∈ oj.after, Region.binds .any e = true → e.on ≠ i := fun e he hb heq => by
        have h1 := hall e he hb
        have h0 := (mem_ready.1 hr).1
        rw [heq] at h1
        rcases Nat.lt_or_ge i listed.size with h' | h'
        · simp [h'] at h0 h1; rw [h0] at h1; cases h1
        · simp [Array.getElem?_eq_none h'] at h1
      have hjm : j < m := by
        rcases Nat.lt_or_ge j m with h' | h'
        · exact h'
        · obtain ⟨e, he, hb, heq⟩ := lateOk_spec hlate hoj h' him
          exact absurd heq (hnot e he hb)
      have h2 := wpOpIn_calm hoj (hfree j oj hoj hji hjun hnot) (fun cs b => hsel i oi cs b hi) (fun cs b => hsel j oj cs b hoj) hy h1
      have hfree' : ∀ k ok, ops[k]? = some ok → k ≠ i → (listed.setIfInBounds j true).getD k true = false →
          (∀ e ∈ ok.after, Region.binds .any e = true → e.on ≠ i) → oi.apart ops ok = true := fun k ok hk hki hun hno => by
        refine hfree k ok hk hki ?_ hno
        by_cases hjk : j = k
        · subst hjk; exact hjun
        · rw [getD_set_ne true hjk] at hun; exact hun
      refine wpOpIn_mono (fun a' w' h3 => ⟨h3.2.1, ih (listed.setIfInBounds j true) a' w' hfree' (ready_mono hr (Ne.symm hji)) h3.1 (h3.2.1 hjm) ?_⟩) h2
      rw [Array.setIfInBounds_comm _ _ hji]
      exact h3.2.2
inductive Plan where
  | done
  | calm (i : Nat) (p : Plan)
  | must (i : Nat) (p : Plan)
  | either (i : Nat) (p : Plan) (j : Nat) (q : Plan)
  | par (l : List (Nat × List Nat)) (p : Plan)
def memB (k : Nat) : List Nat → Bool
  | [] => false
  | j :: r => match Nat.beq j k with
    | true => true
    | false => memB k r
abbrev Cs (l : List Nat) (p : Plan) : Plan := l.foldr .calm p
theorem memB_ok {k : Nat} : ∀ {l : List Nat}, memB k l = true → k ∈ l
  | [], h => by cases h
  | j :: r, h => by
    simp only [memB] at h
    split at h
    · rename_i e; rw [Nat.eq_of_beq_eq_true e]; exact List.mem_cons_self
    · exact List.mem_cons_of_mem _ (memB_ok h)
theorem memB_no {k : Nat} : ∀ {l : List Nat}, memB k l = false → k ∉ l
  | [], _ => by simp
  | j :: r, h => by
    simp only [memB] at h
    split at h
    · cases h
    · rename_i e
      simp only [List.mem_cons, not_or]
      exact ⟨fun e2 => by subst e2; simp at e, memB_no h⟩
def bitOf (M : T Nat) (x y : Nat) : Bool := match M.get x with
  | some n => Nat.testBit n y
  | none => false
def parEach (ops : Array Oper) (M : T Nat) (m : Nat) (listed : Array Bool) : List Nat → List (Nat × List Nat) → Bool
  | _, [] => true
  | E, (x, ds) :: r => match ops[x]? with
    | some o => Nat.blt x m && !(listed.getD x true) && !(memB x E) && (ds.all fun y => memB y E && bitOf M x y) && (o.after.all fun e => !(Region.binds .any e) || listed.getD e.on false || memB e.on E) && parEach ops M m listed (x :: E) r
    | none => false
def parOk (ops : Array Oper) (m : Nat) (listed : Array Bool) (l : List (Nat × List Nat)) : Bool :=
  !l.isEmpty && parEach ops (maskL ops.toList 0 .e) m listed [] l && ((List.range ops.size).all fun z => listed.getD z true || memB z (l.map Prod.fst) || (l.all fun x => bitOf (maskL ops.toList 0 .e) z x.1))
def listAll (l : List (Nat × List Nat)) (listed : Array Bool) : Array Bool := match l with
  | [] => listed
  | x :: r => listAll r (listed.setIfInBounds x.1 true)
def planOk (ops : Array Oper) (m : Nat) : Plan → Nat → Array Bool → Bool
  | .done, fuel, listed => (Region.ready .any ops listed).isEmpty && Nat.beq fuel 0
  | .calm i p, fuel, listed => match fuel with
    | 0 => false
    | fuel + 1 => Nat.blt i m && Region.free .any ops listed i && (Region.ready .any ops listed).contains i && planOk ops m p fuel (listed.setIfInBounds i true)
  | .must i p, fuel, listed => match fuel with
    | 0 => false
    | fuel + 1 => (Region.ready .any ops listed == [i]) && planOk ops m p fuel (listed.setIfInBounds i true)
  | .par l p, fuel, listed => parOk ops m listed l && Nat.ble l.length fuel && planOk ops m p (Nat.sub fuel l.length) (listAll l listed)
  | .either i p j q, fuel, listed => match fuel with
    | 0 => false
    | fuel + 1 => (Region.ready .any ops listed == [i, j]) && planOk ops m p fuel (listed.setIfInBounds i true) && planOk ops m q fuel (listed.setIfInBounds j true)
def Plan.calms : Plan → Bool
  | .done => false
  | .calm _ _ => true
  | .must _ p => p.calms
  | .either _ p _ q => p.calms || q.calms
  | .par _ _ => true
def Must (c : Cx) (ops : Array Oper) (K : Exit → St → Prop) (Ls : List (Nat × Obj)) (m i : Nat) (W : St → Prop) (σ : St) : Prop := ∃ o, ops[i]? = some o ∧
      ((o.guard = none ∨ ∃ j want og dg, o.guard = some (j, want) ∧ ops[j]? = some og ∧ og.dst = some dg ∧ look σ.s dg = some (.bool want)) ∧ OW c o (fun σ' => (i < m → ∀ q ∈ Ls, q ∈ σ'.L) ∧ W σ') K σ ∨
       (∃ j want og dg b, o.guard = some (j, want) ∧ ops[j]? = some og ∧ og.dst = some dg ∧ look σ.s dg = some b ∧ (b = .bool (!want) ∨ b = undef)) ∧ dok c.N o.dst = true ∧ (i < m → ∀ q ∈ Ls, q ∈ σ.L) ∧ W (σ.put o.dst undef))
def WR (c : Cx) (ops : Array Oper) (K : Exit → St → Prop) : List (Nat × Obj) → Nat → Plan → St → Prop
  | _, _, .done, σ => K .normal σ
  | Ls, m, .calm i p, σ => ∃ o v, ops[i]? = some o ∧ dok c.N o.dst = true ∧ (Qt c σ.s Ls o v ∧ o.guard = none ∨ ∃ j want og dg b, o.guard = some (j, want) ∧ ops[j]? = some og ∧ og.dst = some dg ∧ look σ.s dg = some b ∧
      ((b = .bool want ∧ Qt c σ.s Ls o v) ∨ ((b = .bool (!want) ∨ b = undef) ∧ v = undef ∧ ∀ cc, o.op ≠ .defer cc))) ∧ WR c ops K Ls m p (σ.put o.dst v)
  | Ls, m, .must i p, σ => Must c ops K Ls m i (fun σ' => WR c ops K Ls m p σ' ∨ ((∀ q ∈ Ls, q ∈ σ'.L) ∧ WR c ops K σ'.L m p σ')) σ
  | _, _, .par _ _, _ => False
  | Ls, m, .either i p j q, σ => Must c ops K Ls m i (fun σ' => WR c ops K Ls m p σ' ∨ ((∀ q ∈ Ls, q ∈ σ'.L) ∧ WR c ops K σ'.L m p σ')) σ ∧ Must c ops K Ls m j (fun σ' => WR c ops K Ls m q σ' ∨ ((∀ q ∈ Ls, q ∈ σ'.L) ∧ WR c ops K σ'.L m q σ')) σ
theorem AnyH.grow {K : Exit → St → Prop} {Ls Ls' : List (Nat × Obj)} {m : Nat} (hn : (Ls.map Prod.fst).Nodup) (hs : ∀ q ∈ Ls, q ∈ Ls') : ∀ (fuel : Nat) (listed : Array Bool) (a : Act) (w : World), AnyH c ops K Ls' m fuel listed a w → AnyH c ops K Ls m fuel listed a w
  | 0, _, _, _, h => h
  | fuel + 1, _, _, _, h => ⟨h.1, fun i hi => wpOpIn_mono (fun a' w' h' => ⟨fun him => (h'.1 him).sub hn hs, AnyH.grow hn hs fuel _ a' w' h'.2⟩) (h.2 i hi)⟩
theorem wanted_yes {g : World} {N : Nat} {σ : St} {a : Act} {w : World} (ha : Holds g N σ a w) {o og : Oper} {j dg : Nat} {want : Bool} (hg : o.guard = some (j, want)) (hj : ops[j]? = some og) (hdg : og.dst = some dg) {b : Bool} (hb : look σ.s dg = some (.bool b)) : Region.wanted o (yielded ops a.tmps) = (b == want) := by
  have hs := ha.slots dg _ hb
  rw [Array.getD_eq_getD_getElem?] at hs
  have hy : yielded ops a.tmps j = some b := by
    unfold yielded
    simp only [hj, Option.bind_some, hdg]
    cases hx : a.tmps[dg]? with
    | none => rw [hx] at hs; cases hs
    | some u => rw [hx] at hs; simp only [Option.getD_some] at hs; subst hs; rfl
  unfold Region.wanted
  simp only [hg, hy]
  rfl
theorem wanted_undef {g : World} {N : Nat} {σ : St} {a : Act} {w : World} (ha : Holds g N σ a w) {o og : Oper} {j dg : Nat} {want : Bool} (hg : o.guard = some (j, want)) (hj : ops[j]? = some og) (hdg : og.dst = some dg) (hb : look σ.s dg = some undef) : Region.wanted o (yielded ops a.tmps) = false := by
  have hs := ha.slots dg _ hb
  rw [Array.getD_eq_getD_getElem?] at hs
  have hy : yielded ops a.tmps j = none := by
    unfold yielded
    simp only [hj, Option.bind_some, hdg]
    cases hx : a.tmps[dg]? with
    | none => rfl
    | some u => rw [hx] at hs; simp only [Option.getD_some] at hs; subst hs; rfl
  unfold Region.wanted
  simp only [hg, hy]
  rfl
theorem planOk_late {m : Nat} : ∀ (p : Plan) (fuel : Nat) (listed : Array Bool), planOk ops m p fuel listed = true → (∀ k, k < m → listed.getD k false = true) → p.calms = true → False := by
  intro p
  induction p with
  | done => intro _ _ _ _ h; cases h
  | calm k0 p ihp =>
    intro fuel listed hp hall _
    cases fuel with
    | zero => cases hp
    | succ fuel =>
      simp only [planOk, Bool.and_eq_true, Nat.blt_eq] at hp
      obtain ⟨⟨⟨hkm, _⟩, hrd⟩, _⟩ := hp
      have h0 := (mem_ready.1 (List.contains_iff_mem.1 hrd)).1
      have h1 := hall k0 hkm
      rcases Nat.lt_or_ge k0 listed.size with h' | h'
      · simp [h'] at h0 h1; rw [h0] at h1; cases h1
      · simp [Array.getElem?_eq_none h'] at h1
  | must k0 p ihp =>
    intro fuel listed hp hall hc
    cases fuel with
    | zero => cases hp
    | succ fuel =>
      simp only [planOk, Bool.and_eq_true] at hp
      exact ihp fuel _ hp.2 (fun k hk => getD_set_true (hall k hk)) hc
  | either i p j q ihp ihq =>
    intro fuel listed hp hall hc
    cases fuel with
    | zero => cases hp
    | succ fuel =>
      simp only [planOk, Bool.and_eq_true] at hp
      simp only [Plan.calms, Bool.or_eq_true] at hc
      rcases hc with hc | hc
      · exact ihp fuel _ hp.1.2 (fun k hk => getD_set_true (hall k hk)) hc
      · exact ihq fuel _ hp.2 (fun k hk => getD_set_true (hall k hk)) hc
  | par l p ih =>
    intro fuel listed hp hall hc
    simp only [planOk, parOk, Bool.and_eq_true] at hp
    obtain ⟨⟨⟨⟨h1, h2⟩, _⟩, _⟩, _⟩ := hp
    cases l with
    | nil => cases h1
    | cons q r =>
      obtain ⟨x, ds⟩ := q
      simp only [parEach] at h2
      split at h2
      · simp only [Bool.and_eq_true, Nat.blt_eq, Bool.not_eq_true'] at h2
        obtain ⟨⟨⟨⟨⟨hx, h0⟩, _⟩, _⟩, _⟩, _⟩ := h2
        have h1 := hall x hx
        rcases Nat.lt_or_ge x listed.size with h' | h'
        · simp [h'] at h0 h1; rw [h0] at h1; cases h1
        · simp [Array.getElem?_eq_none h'] at h1
      · cases h2
theorem Must.step {K : Exit → St → Prop} {Ls : List (Nat × Obj)} {m : Nat} (hlate : lateOk ops m = true) (hn : (Ls.map Prod.fst).Nodup) {p : Plan} {fuel : Nat} {listed : Array Bool} {σ : St} {j : Nat} (hj : j ∈ Region.ready .any ops listed)
    {W : St → Prop} (ih : ∀ (σ : St), W σ → ∀ a w, Holds c.g c.N σ a w → (p.calms = true → Mem c.g Ls w) → AnyH c ops K Ls m fuel (listed.setIfInBounds j true) a w)
    (hp : planOk ops m p fuel (listed.setIfInBounds j true) = true) (h : Must c ops K Ls m j W σ) (a : Act) (w : World) (ha : Holds c.g c.N σ a w) :
    wpOpIn (Fw c.r) c.n c.P ops (liftO c K) j (fun a' w' => (j < m → Mem c.g Ls w') ∧ AnyH c ops K Ls m fuel (listed.setIfInBounds j true) a' w') a w := by
  obtain ⟨o, ho, hW⟩ := h
  have hgo : ∀ a' w' σ', Holds c.g c.N σ' a' w' → (j < m → ∀ q ∈ Ls, q ∈ σ'.L) → W σ' → (j < m → Mem c.g Ls w') ∧ AnyH c ops K Ls m fuel (listed.setIfInBounds j true) a' w' := by
    intro a' w' σ' h1 h2 h3
    have hmem : j < m → Mem c.g Ls w' := fun hjm => h1.mem.sub hn (h2 hjm)
    refine ⟨hmem, ih σ' h3 a' w' h1 (fun hx => ?_)⟩
    rcases Nat.lt_or_ge j m with hjm | hjm
    · exact hmem hjm
    · exfalso
      have hall : ∀ k, k < m → (listed.setIfInBounds j true).getD k false = true := fun k hk => by
        obtain ⟨_, oj, hoj, hall⟩ := mem_ready.1 hj
        obtain ⟨e, he, hb, heq⟩ := lateOk_spec hlate hoj hjm hk
        exact getD_set_true (heq ▸ hall e he hb)
      exact planOk_late p fuel _ hp hall hx
  unfold wpOpIn
  simp only [ho]
  rcases hW with ⟨hg, hW⟩ | ⟨⟨jj, want, og, dg, b, hg, hj, hdg, hb, hcase⟩, hd, h2, h3⟩
  · have hw : Region.wanted o (yielded ops a.tmps) = true := by
      rcases hg with hg | ⟨jj, want, og, dg, hg, hj, hdg, hb⟩
      · simp [Region.wanted, hg]
      · rw [wanted_yes ha hg hj hdg hb]; simp
    simp only [hw, if_true]
    exact Oper.wpIn_mono (fun a' w' ⟨σ', h1, h2, h3⟩ => hgo a' w' σ' h1 h2 h3) (hW a w ha)
  · have hw : Region.wanted o (yielded ops a.tmps) = false := by
      rcases hcase with rfl | rfl
      · rw [wanted_yes ha hg hj hdg hb]; cases want <;> rfl
      · exact wanted_undef ha hg hj hdg hb
    simp only [hw, Bool.false_eq_true, if_false]
    exact ⟨fun _ _ => trivial, hgo _ _ _ (ha.put hd undef) (by cases o.dst <;> exact h2) h3⟩
set_option maxHeartbeats 4000000 in
theorem WR_any {K : Exit → St → Prop} {m : Nat} (hs : Region.noSelect ops = true) (hlate : lateOk ops m = true) :
    ∀ (p : Plan) (Ls : List (Nat × Obj)) (_ : (Ls.map Prod.fst).Nodup) (fuel : Nat) (listed : Array Bool) (σ : St), planOk ops m p fuel listed = true → WR c ops K Ls m p σ → ∀ a w, Holds c.g c.N σ a w → (p.calms = true → Mem c.g Ls w) → AnyH c ops K Ls m fuel listed a w := by
  intro p
  induction p with
  | done =>
    intro Ls hn fuel listed σ hp h a w ha _
    simp only [planOk, Bool.and_eq_true, List.isEmpty_iff] at hp
    obtain ⟨hp, hf⟩ := hp
    obtain rfl := Nat.eq_of_beq_eq_true hf
    exact ⟨hp, σ, ha, h⟩
  | calm i p ih =>
    intro Ls hn fuel listed σ hp h a w ha hm
    cases fuel with
    | zero => cases hp
    | succ fuel =>
      simp only [planOk, Bool.and_eq_true, Nat.blt_eq] at hp
      obtain ⟨⟨⟨him, hf⟩, hr⟩, hp⟩ := hp
      obtain ⟨o, v, ho, hd, hq, hrest⟩ := h
      have hmem : Mem c.g Ls w := hm rfl
      have hcalm : Calm c ops Ls o v a := by
        rcases hq with ⟨hq, hg⟩ | ⟨j, want, og, dg, b, hg, hj, hdg, hb, hcase⟩
        · exact ⟨hq.1, .inl ⟨by simp [Region.wanted, hg], fun w hw => hq.2 a.eval (fun x u hu => ha.ev hu) w hw⟩⟩
        · have hy : ∀ b', b = .bool b' → Region.wanted o (yielded ops a.tmps) = (b' == want) := fun b' e => by
            subst e; exact wanted_yes ha hg hj hdg hb
          rcases hcase with ⟨hb', hq⟩ | ⟨hb', rfl, hnd⟩
          · exact ⟨hq.1, .inl ⟨by rw [hy _ hb']; simp, fun w hw => hq.2 a.eval (fun x u hu => ha.ev hu) w hw⟩⟩
          · refine ⟨hnd, .inr ⟨?_, rfl⟩⟩
            rcases hb' with hb' | hb'
            · rw [hy _ hb']; cases want <;> rfl
            · subst hb'; exact wanted_undef ha hg hj hdg hb
      exact AnyH.first ho (Region.noSelect_spec hs) him hlate fuel listed a w (Region.free_spec ho hf) (by simpa using hr) hcalm hmem
        (ih Ls hn fuel _ _ hp hrest _ w (ha.put hd v) (fun _ => hmem))
  | must i p ih =>
    intro Ls hn fuel listed σ hp h a w ha hm
    cases fuel with
    | zero => cases hp
    | succ fuel =>
      simp only [planOk, Bool.and_eq_true, beq_iff_eq] at hp
      obtain ⟨hr, hp⟩ := hp
      refine ⟨fun h0 => (by rw [hr] at h0; cases h0), fun j hj => ?_⟩
      have hj' := hj
      rw [hr] at hj
      obtain rfl := List.mem_singleton.1 hj
      exact Must.step hlate hn hj' (fun σ' h' a' w' ha' hm' => h'.elim (fun h1 => ih Ls hn fuel _ σ' hp h1 a' w' ha' hm') (fun h1 => AnyH.grow hn h1.1 _ _ _ _ (ih σ'.L ha'.mem.nodup fuel _ σ' hp h1.2 a' w' ha' (fun _ => ha'.mem)))) hp h a w ha
  | either i p j q ihp ihq =>
    intro Ls hn fuel listed σ hp h a w ha hm
    cases fuel with
    | zero => cases hp
    | succ fuel =>
      simp only [planOk, Bool.and_eq_true, beq_iff_eq] at hp
      obtain ⟨⟨hr, hp⟩, hq⟩ := hp
      refine ⟨fun h0 => (by rw [hr] at h0; cases h0), fun k hk => ?_⟩
      have hk' := hk
      rw [hr] at hk
      rcases List.mem_cons.1 hk with rfl | hk
      · exact Must.step hlate hn hk' (fun σ' h' a' w' ha' hm' => h'.elim (fun h1 => ihp Ls hn fuel _ σ' hp h1 a' w' ha' hm') (fun h1 => AnyH.grow hn h1.1 _ _ _ _ (ihp σ'.L ha'.mem.nodup fuel _ σ' hp h1.2 a' w' ha' (fun _ => ha'.mem)))) hp h.1 a w ha
      · obtain rfl := List.mem_singleton.1 hk
        exact Must.step hlate hn hk' (fun σ' h' a' w' ha' hm' => h'.elim (fun h1 => ihq Ls hn fuel _ σ' hq h1 a' w' ha' hm') (fun h1 => AnyH.grow hn h1.1 _ _ _ _ (ihq σ'.L ha'.mem.nodup fuel _ σ' hq h1.2 a' w' ha' (fun _ => ha'.mem)))) hq h.2 a w ha
  | par l p ih => intro Ls hn fuel listed σ hp h; exact h.elim
theorem WC_draw {K : Exit → St → Prop} {σ : St} {id : Nat} (Ls : List (Nat × Obj)) (m : Nat) (p : Plan) (hm : c.P.follows .mixedOrders = true)
    (hok : (Region.noSelect ops && lateOk ops m && planOk ops m p ops.size (Array.replicate ops.size false)) = true) (hsub : (σ.L.map Prod.fst).Nodup → (Ls.map Prod.fst).Nodup ∧ ∀ q ∈ Ls, q ∈ σ.L) (h : WR c ops K Ls m p σ) : WC c (.region id ops true) K σ := fun a w ha => by
  simp only [Bool.and_eq_true] at hok
  obtain ⟨hn, hs⟩ := hsub ha.mem.nodup
  have ha' : Holds c.g c.N σ a { w with drawn := w.drawn + 1 } := ha.mem' ha.mem.drew
  exact Go.wpIn_mono (wpIn_region_any hm (AnyH.any _ _ _ _ (WR_any hok.1.1 hok.1.2 p Ls hn _ _ σ hok.2 h a _ ha' (fun _ => ha'.mem.sub hn hs)))) fun _ _ _ hl => hl.lift
def notDefer : Op → Bool
  | .defer _ => false
  | _ => true
theorem WR_qt {K : Exit → St → Prop} {Ls : List (Nat × Obj)} {m i : Nat} {p : Plan} {σ : St} {o : Oper} {v : Value} (ho : ops[i]? = some o) (hq : Qt c σ.s Ls o v) (hg : o.guard = none) (hd : dok c.N o.dst = true) (hk : WR c ops K Ls m p (σ.put o.dst v)) : WR c ops K Ls m (.calm i p) σ :=
  ⟨o, v, ho, hd, .inl ⟨hq, hg⟩, hk⟩
theorem WR_qt_yes {K : Exit → St → Prop} {Ls : List (Nat × Obj)} {m i j : Nat} {want : Bool} {og : Oper} {dg : Nat} {p : Plan} {σ : St} {o : Oper} {v : Value} (ho : ops[i]? = some o) (hg : o.guard = some (j, want)) (hj : ops[j]? = some og) (hdg : og.dst = some dg) {b : Bool} (hb : look σ.s dg = some (.bool b)) (he : b = want) (hq : Qt c σ.s Ls o v) (hd : dok c.N o.dst = true) (hk : WR c ops K Ls m p (σ.put o.dst v)) : WR c ops K Ls m (.calm i p) σ :=
  ⟨o, v, ho, hd, .inr ⟨j, want, og, dg, _, hg, hj, hdg, hb, .inl ⟨by rw [he], hq⟩⟩, hk⟩
theorem WR_qt_no {K : Exit → St → Prop} {Ls : List (Nat × Obj)} {m i j : Nat} {want : Bool} {og : Oper} {dg : Nat} {p : Plan} {σ : St} {o : Oper} (ho : ops[i]? = some o) (hg : o.guard = some (j, want)) (hj : ops[j]? = some og) (hdg : og.dst = some dg) {b : Bool} (hb : look σ.s dg = some (.bool b)) (he : b = !want) (hdef : notDefer o.op = true) (hd : dok c.N o.dst = true) (hk : WR c ops K Ls m p (σ.put o.dst undef)) : WR c ops K Ls m (.calm i p) σ :=
  ⟨o, undef, ho, hd, .inr ⟨j, want, og, dg, _, hg, hj, hdg, hb, .inr ⟨.inl (by rw [he]), rfl, fun cc h => by rw [h] at hdef; cases hdef⟩⟩, hk⟩
theorem WR_qt_undef {K : Exit → St → Prop} {Ls : List (Nat × Obj)} {m i j : Nat} {want : Bool} {og : Oper} {dg : Nat} {p : Plan} {σ : St} {o : Oper} (ho : ops[i]? = some o) (hg : o.guard = some (j, want)) (hj : ops[j]? = some og) (hdg : og.dst = some dg) (hb : look σ.s dg = some undef) (hdef : notDefer o.op = true) (hd : dok c.N o.dst = true) (hk : WR c ops K Ls m p (σ.put o.dst undef)) : WR c ops K Ls m (.calm i p) σ :=
  ⟨o, undef, ho, hd, .inr ⟨j, want, og, dg, _, hg, hj, hdg, hb, .inr ⟨.inr rfl, rfl, fun cc h => by rw [h] at hdef; cases hdef⟩⟩, hk⟩
theorem WR_q {K : Exit → St → Prop} {Ls : List (Nat × Obj)} {m i : Nat} {p : Plan} {op : Op} {d ty : Nat} {pos : String} {aft : Array Edge} {s : List (Nat × Value)} {D : List Deferred} {L : List (Nat × Obj)} {v : Value} (ho : ops[i]? = some ⟨some d, op, ty, pos, aft, none⟩)
    (hq : Qt c s Ls ⟨some d, op, ty, pos, aft, none⟩ v) (hd : Nat.blt d c.N = true) (hk : WR c ops K Ls m p ⟨(d, v) :: s, D, L⟩) : WR c ops K Ls m (.calm i p) ⟨s, D, L⟩ := WR_qt (σ := ⟨s, D, L⟩) ho hq rfl hd hk
theorem WR_yes {K : Exit → St → Prop} {Ls : List (Nat × Obj)} {m i j : Nat} {want : Bool} {og : Oper} {dg : Nat} {p : Plan} {op : Op} {d ty : Nat} {pos : String} {aft : Array Edge} {s : List (Nat × Value)} {D : List Deferred} {L : List (Nat × Obj)} {v : Value} (ho : ops[i]? = some ⟨some d, op, ty, pos, aft, some (j, want)⟩)
    (hj : ops[j]? = some og) (hdg : og.dst = some dg) {b : Bool} (hb : look s dg = some (.bool b)) (he : b = want) (hq : Qt c s Ls ⟨some d, op, ty, pos, aft, some (j, want)⟩ v) (hd : Nat.blt d c.N = true) (hk : WR c ops K Ls m p ⟨(d, v) :: s, D, L⟩) : WR c ops K Ls m (.calm i p) ⟨s, D, L⟩ :=
  WR_qt_yes (σ := ⟨s, D, L⟩) ho rfl hj hdg hb he hq hd hk
theorem WR_no {K : Exit → St → Prop} {Ls : List (Nat × Obj)} {m i j : Nat} {want : Bool} {og : Oper} {dg : Nat} {p : Plan} {op : Op} {d ty : Nat} {pos : String} {aft : Array Edge} {s : List (Nat × Value)} {D : List Deferred} {L : List (Nat × Obj)} (ho : ops[i]? = some ⟨some d, op, ty, pos, aft, some (j, want)⟩)
    (hj : ops[j]? = some og := by exact rfl) (hdg : og.dst = some dg := by exact rfl) {b : Bool} (hb : look s dg = some (.bool b) := by exact rfl) (he : b = !want := by first | with_reducible assumption | with_reducible rfl | decide) (hdef : notDefer op = true := by exact rfl) (hd : Nat.blt d c.N = true := by exact rfl) (hk : WR c ops K Ls m p ⟨(d, undef) :: s, D, L⟩) : WR c ops K Ls m (.calm i p) ⟨s, D, L⟩ :=
  WR_qt_no (σ := ⟨s, D, L⟩) ho rfl hj hdg hb he hdef hd hk
theorem WR_un {K : Exit → St → Prop} {Ls : List (Nat × Obj)} {m i j : Nat} {want : Bool} {og : Oper} {dg : Nat} {p : Plan} {op : Op} {d ty : Nat} {pos : String} {aft : Array Edge} {s : List (Nat × Value)} {D : List Deferred} {L : List (Nat × Obj)} (ho : ops[i]? = some ⟨some d, op, ty, pos, aft, some (j, want)⟩)
    (hj : ops[j]? = some og := by exact rfl) (hdg : og.dst = some dg := by exact rfl) (hb : look s dg = some undef := by exact rfl) (hdef : notDefer op = true := by exact rfl) (hd : Nat.blt d c.N = true := by exact rfl) (hk : WR c ops K Ls m p ⟨(d, undef) :: s, D, L⟩) : WR c ops K Ls m (.calm i p) ⟨s, D, L⟩ :=
  WR_qt_undef (σ := ⟨s, D, L⟩) ho rfl hj hdg hb hdef hd hk
theorem WR_op {K : Exit → St → Prop} {Ls : List (Nat × Obj)} {m i : Nat} {p : Plan} {σ : St} {o : Oper} (ho : ops[i]? = some o) (hg : o.guard = none) (h : OW c o (fun σ' => (∀ q ∈ Ls, q ∈ σ'.L) ∧ WR c ops K Ls m p σ') K σ) : WR c ops K Ls m (.must i p) σ :=
  ⟨o, ho, .inl ⟨.inl hg, h.mono fun _ h' => ⟨fun _ => h'.1, .inl h'.2⟩⟩⟩
theorem WR_late {K : Exit → St → Prop} {Ls : List (Nat × Obj)} {m i : Nat} {p : Plan} {σ : St} {o : Oper} (ho : ops[i]? = some o) (hm : Nat.ble m i = true) (hg : o.guard = none) (h : OW c o (WR c ops K Ls m p) K σ) : WR c ops K Ls m (.must i p) σ :=
  ⟨o, ho, .inl ⟨.inl hg, h.mono fun _ h' => ⟨fun hlt => by have := Nat.le_of_ble_eq_true hm; omega, .inl h'⟩⟩⟩
theorem WR_opY {K : Exit → St → Prop} {Ls : List (Nat × Obj)} {m i j dg : Nat} {want b : Bool} {og : Oper} {p : Plan} {σ : St} {o : Oper} (ho : ops[i]? = some o) (hg : o.guard = some (j, want) := by exact rfl) (hj : ops[j]? = some og := by exact rfl) (hdg : og.dst = some dg := by exact rfl) (hb : look σ.s dg = some (.bool b) := by exact rfl) (he : b = want := by first | with_reducible assumption | with_reducible rfl | decide) (h : OW c o (fun σ' => (∀ q ∈ Ls, q ∈ σ'.L) ∧ WR c ops K Ls m p σ') K σ) : WR c ops K Ls m (.must i p) σ :=
  ⟨o, ho, .inl ⟨.inr ⟨j, want, og, dg, hg, hj, hdg, by rw [hb, he]⟩, h.mono fun _ h' => ⟨fun _ => h'.1, .inl h'.2⟩⟩⟩
theorem WR_opN {K : Exit → St → Prop} {Ls : List (Nat × Obj)} {m i j dg : Nat} {want b : Bool} {og : Oper} {p : Plan} {σ : St} {o : Oper} (ho : ops[i]? = some o) (hg : o.guard = some (j, want)) (hj : ops[j]? = some og) (hdg : og.dst = some dg) (hb : look σ.s dg = some (.bool b)) (he : b = !want) (hd : dok c.N o.dst = true) (hL : ∀ q ∈ Ls, q ∈ σ.L) (h : WR c ops K Ls m p (σ.put o.dst undef)) : WR c ops K Ls m (.must i p) σ :=
  ⟨o, ho, .inr ⟨⟨j, want, og, dg, _, hg, hj, hdg, hb, .inl (by rw [he])⟩, hd, fun _ => hL, .inl h⟩⟩
theorem WR_opU {K : Exit → St → Prop} {Ls : List (Nat × Obj)} {m i j dg : Nat} {want : Bool} {og : Oper} {p : Plan} {σ : St} {o : Oper} (ho : ops[i]? = some o) (hg : o.guard = some (j, want)) (hj : ops[j]? = some og) (hdg : og.dst = some dg) (hb : look σ.s dg = some undef) (hd : dok c.N o.dst = true) (hL : ∀ q ∈ Ls, q ∈ σ.L) (h : WR c ops K Ls m p (σ.put o.dst undef)) : WR c ops K Ls m (.must i p) σ :=
  ⟨o, ho, .inr ⟨⟨j, want, og, dg, _, hg, hj, hdg, hb, .inr rfl⟩, hd, fun _ => hL, .inl h⟩⟩
theorem WR_opG {K : Exit → St → Prop} {Ls : List (Nat × Obj)} {m i : Nat} {p : Plan} {σ : St} {o : Oper} (ho : ops[i]? = some o) (hg : o.guard = none) (h : OW c o (fun σ' => (∀ q ∈ Ls, q ∈ σ'.L) ∧ WR c ops K σ'.L m p σ') K σ) : WR c ops K Ls m (.must i p) σ :=
  ⟨o, ho, .inl ⟨.inl hg, h.mono fun _ h' => ⟨fun _ => h'.1, .inr h'⟩⟩⟩
theorem WR_opYG {K : Exit → St → Prop} {Ls : List (Nat × Obj)} {m i j dg : Nat} {want b : Bool} {og : Oper} {p : Plan} {σ : St} {o : Oper} (ho : ops[i]? = some o) (hg : o.guard = some (j, want) := by exact rfl) (hj : ops[j]? = some og := by exact rfl) (hdg : og.dst = some dg := by exact rfl) (hb : look σ.s dg = some (.bool b) := by exact rfl) (he : b = want := by first | with_reducible assumption | with_reducible rfl | decide) (h : OW c o (fun σ' => (∀ q ∈ Ls, q ∈ σ'.L) ∧ WR c ops K σ'.L m p σ') K σ) : WR c ops K Ls m (.must i p) σ :=
  ⟨o, ho, .inl ⟨.inr ⟨j, want, og, dg, hg, hj, hdg, by rw [hb, he]⟩, h.mono fun _ h' => ⟨fun _ => h'.1, .inr h'⟩⟩⟩
theorem WR_either {K : Exit → St → Prop} {Ls : List (Nat × Obj)} {m i j : Nat} {p q : Plan} {σ : St} (h1 : WR c ops K Ls m (.must i p) σ) (h2 : WR c ops K Ls m (.must j q) σ) : WR c ops K Ls m (.either i p j q) σ := ⟨h1, h2⟩
theorem WR_nil {K : Exit → St → Prop} {Ls : List (Nat × Obj)} {m : Nat} {σ : St} (h : K .normal σ) : WR c ops K Ls m .done σ := h
theorem WC_draw_all {K : Exit → St → Prop} {σ : St} {id : Nat} (m : Nat) (p : Plan) (hm : c.P.follows .mixedOrders = true)
    (hok : (Region.noSelect ops && lateOk ops m && planOk ops m p ops.size (Array.replicate ops.size false)) = true) (h : WR c ops K σ.L m p σ) : WC c (.region id ops true) K σ :=
  WC_draw σ.L m p hm hok (fun hn => ⟨hn, fun _ h => h⟩) h
theorem WC_cond_t {x : Operand} {t e : Code} {K : Exit → St → Prop} {σ : St} {b : Bool} (hx : ev σ.s x = some (.bool b) := by exact rfl) (hb : b = true := by first | with_reducible assumption | with_reducible rfl | decide) (ht : WC c t K σ) : WC c (.cond x t e) K σ := WC_cond hx (fun _ => ht) (fun h => by rw [hb] at h; cases h)
theorem WC_cond_f {x : Operand} {t e : Code} {K : Exit → St → Prop} {σ : St} {b : Bool} (hx : ev σ.s x = some (.bool b) := by exact rfl) (hb : b = false := by first | with_reducible assumption | with_reducible rfl | decide) (he : WC c e K σ) : WC c (.cond x t e) K σ := WC_cond hx (fun h => by rw [hb] at h; cases h) (fun _ => he)
theorem WL_yes {op : Op} {d ty : Nat} {pos : String} {aft : Array Edge} {og : Oper} {rest : List Oper} {K : Exit → St → Prop} {s : List (Nat × Value)} {D : List Deferred} {L : List (Nat × Obj)} {j : Nat} {want b : Bool} {dg : Nat} (hj : ops[j]? = some og := by exact rfl) (hdg : og.dst = some dg := by exact rfl) (hb : look s dg = some (.bool b) := by exact rfl) (he : b = want := by first | with_reducible assumption | with_reducible rfl | decide)
    (hd : Nat.blt d c.N = true := by exact rfl) (h : OW c ⟨some d, op, ty, pos, aft, some (j, want)⟩ (WL c ops rest K) K ⟨s, D, L⟩) : WL c ops (⟨some d, op, ty, pos, aft, some (j, want)⟩ :: rest) K ⟨s, D, L⟩ :=
  WL_guard (σ := ⟨s, D, L⟩) rfl hj hdg hb (fun _ => h) hd (fun e => by subst he; cases b <;> cases e)
theorem WL_no {op : Op} {d ty : Nat} {pos : String} {aft : Array Edge} {og : Oper} {rest : List Oper} {K : Exit → St → Prop} {s : List (Nat × Value)} {D : List Deferred} {L : List (Nat × Obj)} {j : Nat} {want b : Bool} {dg : Nat} (hj : ops[j]? = some og := by exact rfl) (hdg : og.dst = some dg := by exact rfl) (hb : look s dg = some (.bool b) := by exact rfl) (he : b = !want := by first | with_reducible assumption | with_reducible rfl | decide)
    (hd : Nat.blt d c.N = true := by exact rfl) (h : WL c ops rest K ⟨(d, undef) :: s, D, L⟩) : WL c ops (⟨some d, op, ty, pos, aft, some (j, want)⟩ :: rest) K ⟨s, D, L⟩ :=
  WL_guard (σ := ⟨s, D, L⟩) rfl hj hdg hb (fun e => by subst e; cases b <;> cases he) hd (fun _ => h)
end
end Go.Proofs.YtekmmhmhcpaiaaaGreat
