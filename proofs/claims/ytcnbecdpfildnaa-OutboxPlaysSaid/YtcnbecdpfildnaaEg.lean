/-
  Running a program's function by computing: which values are the same, and which lead to old blocks only. It proves no statement by itself. It holds for every program.
-/
import Derived.Test.YtcnbecdpfildnaaEm
namespace Go.Proofs.Ytcnbecdpfildnaa
open Go.RowKit
noncomputable section
attribute [local irreducible] T.put T.set

mutual
/-- All its numbers are below n. -/
def V.low (n : Nat) : V → Bool
  | .ptr k _ => Nat.blt k n
  | .sl k _ _ _ _ => Nat.blt k n
  | .map k => Nat.blt k n
  | .yld k => Nat.blt k n
  | .fn _ A B => match V.lows n A with
    | true => V.lows n B
    | false => false
  | .ifc _ v => V.low n v
  | .agg l => V.lows n l
  | .tup l => V.lows n l
  | _ => true
def V.lows (n : Nat) : List V → Bool
  | [] => true
  | v :: r => match V.low n v with
    | true => V.lows n r
    | false => false
end

theorem bs_strip {bs r : Bs} {k : Nat} {x : Nat × Nat × Nat} (h : (bs ++ r)[k]? = some x) (hk : Nat.blt k bs.length = true) : bs[k]? = some x := by
  rw [Nat.blt_eq] at hk
  rwa [List.getElem?_append_left hk] at h

mutual
theorem RV.strip {bs r : Bs} : ∀ {v : V} {v' : Value}, RV (bs ++ r) v v' → V.low bs.length v = true → RV bs v v'
  | _, _, .int k n, _ => .int k n
  | _, _, .bool b, _ => .bool b
  | _, _, .str s, _ => .str s
  | _, _, .ptrN, _ => .ptrN
  | _, _, .ptr h, hl => .ptr (bs_strip h (by simpa [V.low] using hl))
  | _, _, .slN, _ => .slN
  | _, _, .sl hex h h1 h2 h3 h4, hl => .sl hex (bs_strip h (by simpa [V.low] using hl)) h1 h2 h3 h4
  | _, _, .fn f hA hB, hl => by
    simp only [V.low] at hl
    split at hl
    · rename_i h1; exact .fn f (RVs.strip hA h1) (RVs.strip hB hl)
    · cases hl
  | _, _, .nilf, _ => .nilf
  | _, _, .ifc t h, hl => .ifc t (RV.strip h (by simpa only [V.low] using hl))
  | _, _, .nili, _ => .nili
  | _, _, .mapN, _ => .mapN
  | _, _, .map h, hl => .map (bs_strip h (by simpa [V.low] using hl))
  | _, _, .agg h, hl => .agg (RVs.strip h (by simpa only [V.low] using hl))
  | _, _, .yld h, hl => .yld (bs_strip h (by simpa [V.low] using hl))
  | _, _, .tup h, hl => .tup (RVs.strip h (by simpa only [V.low] using hl))
theorem RVs.strip {bs r : Bs} : ∀ {l : List V} {l' : List Value}, RVs (bs ++ r) l l' → V.lows bs.length l = true → RVs bs l l'
  | _, _, .nil, _ => .nil
  | _, _, .cons h hl, hh => by
    simp only [V.lows] at hh
    split at hh
    · rename_i h1; exact .cons (RV.strip h h1) (RVs.strip hl hh)
    · cases hh
end

/-! ### what is the same, but for numbers -/
def beqK (a b : IntKind) : Bool := decide (a = b)
def beqI (a b : Int) : Bool := decide (a = b)
mutual
/-- The second value is the first one with its numbers turned. -/
def V.same (ρ : Nat → Nat) : V → V → Bool
  | .int k n, .int k' n' => match beqK k k' with
    | true => beqI n n'
    | false => false
  | .bool b, .bool b' => b == b'
  | .str s, .str s' => decide (s = s')
  | .ptrN, .ptrN => true
  | .ptr k o, .ptr k' o' => match Nat.beq (ρ k) k' with
    | true => Nat.beq o o'
    | false => false
  | .slN, .slN => true
  | .sl a b c d e, .sl a' b' c' d' e' => match Nat.beq (ρ a) a', Nat.beq b b', Nat.beq c c', Nat.beq d d' with
    | true, true, true, true => e == e'
    | _, _, _, _ => false
  | .fn f A B, .fn f' A' B' => match decide (f = f'), V.sames ρ A A' with
    | true, true => V.sames ρ B B'
    | _, _ => false
  | .nilf, .nilf => true
  | .ifc t v, .ifc t' v' => match Nat.beq t t' with
    | true => V.same ρ v v'
    | false => false
  | .nili, .nili => true
  | .mapN, .mapN => true
  | .map k, .map k' => Nat.beq (ρ k) k'
  | .agg l, .agg l' => V.sames ρ l l'
  | .tup l, .tup l' => V.sames ρ l l'
  | .yld k, .yld k' => Nat.beq (ρ k) k'
  | _, _ => false
def V.sames (ρ : Nat → Nat) : List V → List V → Bool
  | [], [] => true
  | v :: r, v' :: r' => match V.same ρ v v' with
    | true => V.sames ρ r r'
    | false => false
  | _, _ => false
end
/-- Numbers that are turned stand for the same blocks. -/
def Turn (ρ : Nat → Nat) (bs1 bs2 : Bs) : Prop := ∀ k, bs1[k]? = bs2[ρ k]?
mutual
theorem V.same_ok {ρ : Nat → Nat} {bs1 bs2 : Bs} (ht : Turn ρ bs1 bs2) : ∀ {a b : V} {v : Value}, V.same ρ a b = true → RV bs2 b v → RV bs1 a v
  | a, b, v, h, hr => by
    cases a <;> cases b <;> simp only [V.same] at h <;> try (cases h; done)
    · split at h
      · rename_i h1
        rw [of_decide_eq_true h1, of_decide_eq_true h]
        cases hr; exact .int _ _
      · cases h
    · simp only [beq_iff_eq] at h; subst h; cases hr; exact .bool _
    · rw [of_decide_eq_true h]; cases hr; exact .str _
    · cases hr; exact .ptrN
    · split at h
      · rename_i h1
        obtain ⟨b', base, av, rfl, hk⟩ := hr.ptr_inv
        rw [Nat.eq_of_beq_eq_true h]
        exact .ptr (by rw [ht, Nat.eq_of_beq_eq_true h1]; exact hk)
      · cases h
    · cases hr; exact .slN
    · split at h
      · rename_i h1 h2 h3 h4
        simp only [beq_iff_eq] at h; subst h
        rw [Nat.eq_of_beq_eq_true h2, Nat.eq_of_beq_eq_true h3, Nat.eq_of_beq_eq_true h4]
        cases hr with
        | sl hex hk g1 g2 g3 g4 => exact .sl hex (by rw [ht, Nat.eq_of_beq_eq_true h1]; exact hk) g1 g2 g3 g4
      · cases h
    · split at h
      · rename_i h1 h2
        obtain rfl := of_decide_eq_true h1
        cases hr with
        | fn _ hA hB => exact .fn _ (V.sames_ok ht h2 hA) (V.sames_ok ht h hB)
      · cases h
    · cases hr; exact .nilf
    · split at h
      · rename_i h1
        obtain rfl := Nat.eq_of_beq_eq_true h1
        cases hr with
        | ifc _ hv => exact .ifc _ (V.same_ok ht h hv)
      · cases h
    · cases hr; exact .nili
    · cases hr; exact .mapN
    · cases hr with
      | map hk => exact .map (by rw [ht, Nat.eq_of_beq_eq_true h]; exact hk)
    · cases hr with
      | agg hl => exact .agg (V.sames_ok ht h hl)
    · cases hr with
      | tup hl => exact .tup (V.sames_ok ht h hl)
    · cases hr with
      | yld hk => exact .yld (by rw [ht, Nat.eq_of_beq_eq_true h]; exact hk)
theorem V.sames_ok {ρ : Nat → Nat} {bs1 bs2 : Bs} (ht : Turn ρ bs1 bs2) : ∀ {a b : List V} {l : List Value}, V.sames ρ a b = true → RVs bs2 b l → RVs bs1 a l
  | [], [], _, _, h => by cases h; exact .nil
  | [], _ :: _, _, h, _ => by cases h
  | _ :: _, [], _, h, _ => by cases h
  | v :: r, v' :: r', _, h, hr => by
    simp only [V.sames] at h
    split at h
    · rename_i h1
      cases hr with
      | cons hv hl => exact .cons (V.same_ok ht h1 hv) (V.sames_ok ht h hl)
    · cases h
end
def T.same {α : Type} (f : α → α → Bool) : T α → T α → Bool
  | .e, .e => true
  | .n l v r, .n l' v' r' => match (match v, v' with
    | some a, some b => f a b
    | none, none => true
    | _, _ => false), T.same f l l' with
    | true, true => T.same f r r'
    | _, _ => false
  | _, _ => false
theorem T.same_get {α : Type} {f : α → α → Bool} : ∀ {a b : T α}, T.same f a b = true → ∀ (k : Nat) (u : α), a.get k = some u → ∃ u', b.get k = some u' ∧ f u u' = true
  | .e, _, _, k, u, hk => by cases hk
  | .n _ _ _, .e, h, _, _, _ => by cases h
  | .n l v r, .n l' v' r', h, k, u, hk => by
    simp only [T.same] at h
    split at h
    · rename_i h1 h2
      rcases nat_cases k with rfl | ⟨k, rfl⟩ | ⟨k, rfl⟩
      · rw [T.get_zero] at hk ⊢
        have hk : v = some u := hk
        subst hk
        cases v' with
        | none => cases h1
        | some u' => exact ⟨u', rfl, h1⟩
      · rw [T.get_odd] at hk ⊢; exact T.same_get h2 k u hk
      · rw [T.get_even] at hk ⊢; exact T.same_get h k u hk
    · cases h
def sameP (ρ : Nat → Nat) : List (V × V) → List (V × V) → Bool
  | [], [] => true
  | (a, b) :: r, (a', b') :: r' => match V.same ρ a a', V.same ρ b b' with
    | true, true => sameP ρ r r'
    | _, _ => false
  | _, _ => false
theorem sameP_ok {ρ : Nat → Nat} {bs1 bs2 : Bs} (ht : Turn ρ bs1 bs2) : ∀ {a b : List (V × V)} {es : List MapEntry}, sameP ρ a b = true → RMap bs2 b es → RMap bs1 a es
  | [], [], _, _, h => h
  | [], _ :: _, _, h, _ => by cases h
  | _ :: _, [], _, h, _ => by cases h
  | (a, b) :: r, (a', b') :: r', _, h, ⟨e, es', h1, h2, h3, h4⟩ => by
    simp only [sameP] at h
    split at h
    · rename_i g1 g2
      exact ⟨e, es', h1, V.same_ok ht g1 h2, V.same_ok ht g2 h3, sameP_ok ht h h4⟩
    · cases h
def O.same (ρ : Nat → Nat) : O → O → Bool
  | .cells t E, .cells t' E' => match Nat.beq E E' with
    | true => T.same (V.same ρ) t t'
    | false => false
  | .text t, .text t' => T.same (V.same ρ) t t'
  | .map l, .map l' => sameP ρ l l'
  | .defer, .defer => true
  | .gone, .gone => true
  | _, _ => false
theorem O.same_ok {ρ : Nat → Nat} {bs1 bs2 : Bs} (ht : Turn ρ bs1 bs2) {bk base av : Nat} {o' : Obj} : ∀ {a b : O}, O.same ρ a b = true → RO bs2 bk base av b o' → RO bs1 bk base av a o'
  | .cells t E, .cells t' E', h, ⟨cs, h1, h2, h3⟩ => by
    simp only [O.same] at h
    split at h
    · rename_i g1
      refine ⟨cs, by rw [Nat.eq_of_beq_eq_true g1]; exact h1, h2, fun i v hv => ?_⟩
      obtain ⟨u, g2, g3⟩ := T.same_get h i v hv
      obtain ⟨g4, v', g5, g6⟩ := h3 i u g2
      exact ⟨g4, v', g5, V.same_ok ht g3 g6⟩
    · cases h
  | .text t, .text t', h, ⟨cs, E, fr, h1, h2, h3⟩ => by
    refine ⟨cs, E, fr, h1, h2, fun i v hv => ?_⟩
    obtain ⟨u, g2, g3⟩ := T.same_get h i v hv
    obtain ⟨g4, v', g5, g6⟩ := h3 i u g2
    exact ⟨g4, v', g5, V.same_ok ht g3 g6⟩
  | .map l, .map l', h, ⟨es, cl, h1, h2⟩ => ⟨es, cl, h1, sameP_ok ht h h2⟩
  | .glob _ _, _, h, _ => by cases h
  | .cells _ _, .glob _ _, h, _ => by cases h
  | .text _, .glob _ _, h, _ => by cases h
  | .map _, .glob _ _, h, _ => by cases h
  | .defer, .glob _ _, h, _ => by cases h
  | .gone, .glob _ _, h, _ => by cases h
  | .text _, .cells _ _, h, _ => by cases h
  | .text _, .map _, h, _ => by cases h
  | .text _, .loop _ _, h, _ => by cases h
  | .text _, .defer, h, _ => by cases h
  | .text _, .gone, h, _ => by cases h
  | .cells _ _, .text _, h, _ => by cases h
  | .map _, .text _, h, _ => by cases h
  | .defer, .text _, h, _ => by cases h
  | .gone, .text _, h, _ => by cases h
  | .cells _ _, .map _, h, _ => by cases h
  | .map _, .cells _ _, h, _ => by cases h
  | .cells _ _, .loop _ _, h, _ => by cases h
  | .cells _ _, .defer, h, _ => by cases h
  | .cells _ _, .gone, h, _ => by cases h
  | .map _, .loop _ _, h, _ => by cases h
  | .map _, .defer, h, _ => by cases h
  | .map _, .gone, h, _ => by cases h
  | .loop _ _, _, h, _ => by cases h
  | .defer, .defer, _, h => h
  | .defer, .cells _ _, h, _ => by cases h
  | .defer, .map _, h, _ => by cases h
  | .defer, .loop _ _, h, _ => by cases h
  | .defer, .gone, h, _ => by cases h
  | .gone, .gone, _, _ => trivial
  | .gone, .cells _ _, h, _ => by cases h
  | .gone, .map _, h, _ => by cases h
  | .gone, .loop _ _, h, _ => by cases h
  | .gone, .defer, h, _ => by cases h
def sameD (ρ : Nat → Nat) : List DI → List DI → Bool
  | [], [] => true
  | .mark k :: r, .mark k' :: r' => match Nat.beq (ρ k) k' with
    | true => sameD ρ r r'
    | false => false
  | .call f A B :: r, .call f' A' B' :: r' => match Nat.beq f f', V.sames ρ A A', V.sames ρ B B' with
    | true, true, true => sameD ρ r r'
    | _, _, _ => false
  | _, _ => false
theorem sameD_ok {ρ : Nat → Nat} {bs1 bs2 : Bs} (ht : Turn ρ bs1 bs2) : ∀ {a b : List DI} {D : List Deferred}, sameD ρ a b = true → RD bs2 b D → RD bs1 a D
  | [], [], _, _, h => h
  | [], _ :: _, _, h, _ => by cases h
  | _ :: _, [], _, h, _ => by simp [sameD] at h
  | .mark k :: r, .mark k' :: r', _, h, ⟨b, x, y, D', h1, h2, h3⟩ => by
    simp only [sameD] at h
    split at h
    · rename_i g1
      exact ⟨b, x, y, D', by rw [ht, Nat.eq_of_beq_eq_true g1]; exact h1, h2, sameD_ok ht h h3⟩
    · cases h
  | .call f A B :: r, .call f' A' B' :: r', _, h, ⟨A2, B2, D', h1, h2, h3, h4⟩ => by
    simp only [sameD] at h
    split at h
    · rename_i g1 g2 g3
      exact ⟨A2, B2, D', V.sames_ok ht g2 h1, V.sames_ok ht g3 h2, by rw [Nat.eq_of_beq_eq_true g1]; exact h3, sameD_ok ht h h4⟩
    · cases h
  | .mark _ :: _, .call _ _ _ :: _, _, h, _ => by simp [sameD] at h
  | .call _ _ _ :: _, .mark _ :: _, _, h, _ => by simp [sameD] at h
/-- One memory came of the other: what is known of blocks that were there, and that were not written, was known. -/
structure Ext (a b : H) : Prop where
  log : ∀ k ∈ a.log, k ∈ b.log
  n : a.n ≤ b.n
  h : ∀ k o, b.h.get k = some o → k ∈ b.log ∨ (a.n ≤ k ∧ k < b.n) ∨ a.h.get k = some o
theorem Ext.refl (a : H) : Ext a a := ⟨fun _ h => h, Nat.le_refl _, fun _ _ h => .inr (.inr h)⟩
theorem Ext.trans {a b c : H} (h1 : Ext a b) (h2 : Ext b c) : Ext a c := ⟨fun k hk => h2.log k (h1.log k hk), Nat.le_trans h1.n h2.n, fun k o hk => by
  rcases h2.h k o hk with h | h | h
  · exact .inl h
  · exact .inr (.inl ⟨Nat.le_trans h1.n h.1, h.2⟩)
  · rcases h1.h k o h with h | h | h
    · exact .inl (h2.log k h)
    · exact .inr (.inl ⟨h.1, Nat.lt_of_lt_of_le h.2 h2.n⟩)
    · exact .inr (.inr h)⟩
theorem Ext.new (a : H) (o : O) : Ext a (a.new o) := ⟨fun _ h => h, Nat.le_succ _, fun k u hk => by
  rcases T.get_set hk with ⟨rfl, _⟩ | ⟨_, h⟩
  · exact .inr (.inl ⟨Nat.le_refl _, Nat.lt_succ_self _⟩)
  · exact .inr (.inr h)⟩
theorem Ext.upd (a : H) (j : Nat) (o : O) : Ext a (a.upd j o) := ⟨fun _ h => List.mem_cons_of_mem _ h, Nat.le_refl _, fun k u hk => by
  rcases T.get_set hk with ⟨rfl, _⟩ | ⟨_, h⟩
  · exact .inl List.mem_cons_self
  · exact .inr (.inr h)⟩
theorem Ext.swap (a : H) (j : Nat) (o : O) : Ext a (a.swap j o) := ⟨fun _ h => List.mem_cons_of_mem _ h, Nat.le_succ _, fun k u hk => by
  rcases T.get_set hk with ⟨rfl, _⟩ | ⟨_, h⟩
  · exact .inr (.inl ⟨Nat.le_refl _, Nat.lt_succ_self _⟩)
  · rcases T.get_put 40 a.h j k none u h with ⟨_, h1⟩ | ⟨_, h1⟩
    · cases h1
    · exact .inr (.inr h1)⟩
theorem Ext.app {a b : H} {ds ds' : List DI} (h : Ext ⟨a.h, a.n, [], ds⟩ b) : Ext a ⟨b.h, b.n, b.log ++ a.log, ds'⟩ := ⟨fun _ h => List.mem_append_right _ h, h.n, fun k o hk => by
  rcases h.h k o hk with h | h | h
  · exact .inl (List.mem_append_left _ h)
  · exact .inr (.inl h)
  · exact .inr (.inr h)⟩
theorem Ext.ds {a b : H} {ds ds' : List DI} (h : Ext ⟨a.h, a.n, a.log, ds⟩ b) : Ext a ⟨b.h, b.n, b.log, ds'⟩ := ⟨h.log, h.n, h.h⟩

/-- Two rows of numbers, from n on, change places. -/
def shiftN (n c d k : Nat) : Nat := match Nat.blt k n with
  | true => k
  | false => match Nat.blt k (Nat.add n c) with
    | true => Nat.add k d
    | false => match Nat.blt k (Nat.add (Nat.add n c) d) with
      | true => Nat.sub k c
      | false => k
theorem blt_t {a b : Nat} (h : a < b) : Nat.blt a b = true := by rw [Nat.blt_eq]; exact h
theorem blt_f {a b : Nat} (h : ¬ a < b) : Nat.blt a b = false := by
  cases e : Nat.blt a b with
  | false => rfl
  | true => rw [Nat.blt_eq] at e; exact absurd e h
theorem shiftN_eq (n c d k : Nat) : shiftN n c d k = if k < n then k else if k < n + c then k + d else if k < n + c + d then k - c else k := by
  unfold shiftN
  by_cases h1 : k < n
  · rw [if_pos h1, blt_t h1]
  · rw [if_neg h1, blt_f h1]
    by_cases h2 : k < n + c
    · rw [if_pos h2, show Nat.blt k (Nat.add n c) = true from blt_t h2]; rfl
    · rw [if_neg h2, show Nat.blt k (Nat.add n c) = false from blt_f h2]
      by_cases h3 : k < n + c + d
      · rw [if_pos h3, show Nat.blt k (Nat.add (Nat.add n c) d) = true from blt_t h3]; rfl
      · rw [if_neg h3, show Nat.blt k (Nat.add (Nat.add n c) d) = false from blt_f h3]
theorem shiftN_back (n c d k : Nat) : shiftN n c d (shiftN n d c k) = k := by
  rw [shiftN_eq, shiftN_eq]
  repeat' split
  all_goals omega
/-- What is known of these blocks is known in the other memory, too. -/
def keysL (ρ : Nat → Nat) (a b : T O) : List Nat → Bool
  | [] => true
  | k :: r => match a.get k with
    | none => keysL ρ a b r
    | some o => match b.get (ρ k) with
      | none => false
      | some o' => match O.same ρ o o' with
        | true => keysL ρ a b r
        | false => false
theorem keysL_ok {ρ : Nat → Nat} {a b : T O} : ∀ {l : List Nat}, keysL ρ a b l = true → ∀ {k : Nat} {o : O}, k ∈ l → a.get k = some o → ∃ o', b.get (ρ k) = some o' ∧ O.same ρ o o' = true
  | [], _, _, _, h, _ => by cases h
  | j :: r, h, k, o, hk, ho => by
    simp only [keysL] at h
    split at h
    · rename_i e
      rcases List.mem_cons.1 hk with rfl | hk
      · rw [ho] at e; cases e
      · exact keysL_ok h hk ho
    · rename_i o1 e
      split at h
      · cases h
      · rename_i o2 e2
        split at h
        · rename_i hs
          rcases List.mem_cons.1 hk with rfl | hk
          · rw [ho] at e; cases e; exact ⟨o2, e2, hs⟩
          · exact keysL_ok h hk ho
        · cases h
def fromL : Nat → Nat → List Nat
  | _, 0 => []
  | k, n + 1 => k :: fromL (Nat.succ k) n
theorem fromL_mem : ∀ {n k j : Nat}, k ≤ j → j < k + n → j ∈ fromL k n
  | 0, k, j, h1, h2 => by omega
  | n + 1, k, j, h1, h2 => by
    by_cases e : k = j
    · subst e; exact List.mem_cons_self
    · exact List.mem_cons_of_mem _ (fromL_mem (by show k + 1 ≤ j; omega) (by show j < k + 1 + n; omega))
def mapN (ρ : Nat → Nat) : List Nat → List Nat
  | [] => []
  | k :: r => ρ k :: mapN ρ r
theorem mapN_mem {ρ : Nat → Nat} {k : Nat} : ∀ {l : List Nat}, k ∈ l → ρ k ∈ mapN ρ l
  | [], h => by cases h
  | j :: r, h => by
    rcases List.mem_cons.1 h with rfl | h
    · exact List.mem_cons_self
    · exact List.mem_cons_of_mem _ (mapN_mem h)
/-- The second memory is the first one, but for numbers: c of them, and d of them, changed places. -/
def H.leq (n c d : Nat) (a b : H) : Bool := match Nat.beq a.n b.n, Nat.ble (Nat.add (Nat.add n c) d) a.n, sameD (shiftN n c d) a.ds b.ds, keysL (shiftN n c d) a.h b.h a.log, keysL (shiftN n c d) a.h b.h (mapN (shiftN n d c) b.log), keysL (shiftN n c d) a.h b.h (fromL n (Nat.sub a.n n)) with
  | true, true, true, true, true, true => true
  | _, _, _, _, _, _ => false
def H.both (n c d : Nat) (a b : H) : H := ⟨a.h, a.n, a.log ++ (b.log ++ mapN (shiftN n d c) b.log), a.ds⟩
theorem Ext.both1 {p a b : H} {n c d : Nat} (h : Ext p a) : Ext p (H.both n c d a b) := ⟨fun k hk => List.mem_append_left _ (h.log k hk), h.n, fun k o hk => by
  rcases h.h k o hk with h | h | h
  · exact .inl (List.mem_append_left _ h)
  · exact .inr (.inl h)
  · exact .inr (.inr h)⟩
theorem Post.both1 {bs : Bs} {Hp a b : H} {n c d : Nat} {M F : List (Nat × Obj)} {s2 : S} {σ : St} (h : Post bs Hp M F s2 a σ) : Post bs Hp M F s2 (H.both n c d a b) σ := by
  obtain ⟨r, M', f1, f2, f3, f4, f5, f6⟩ := h
  refine ⟨r, M', f1, f2, f3, ⟨f4.n, f4.at_, f4.inj⟩, fun k hk => List.mem_append_left _ (f5 k hk), fun W B hW hB => ?_⟩
  have := f6 W B (fun k hk => hW k (List.mem_append_left _ hk)) hB
  exact fun q hq => this q hq
theorem Post.both2 {bs : Bs} {Hp a b : H} {c d : Nat} {M F : List (Nat × Obj)} {sa sb : S} {σ : St} (hm : HCov bs Hp M) (ha : Ext Hp a) (hc : H.leq Hp.n c d a b = true) (hs : ∀ t v, sa.get t = some v → ∃ u, sb.get t = some u ∧ V.same (shiftN Hp.n c d) v u = true) (h : Post bs Hp M F sb b σ) : Post bs Hp M F sa (H.both Hp.n c d a b) σ := by
  unfold H.leq at hc
  split at hc
  · rename_i q1 q2 q3 q4 q5 q6
    have c1 : a.n = b.n := Nat.eq_of_beq_eq_true q1
    have c1' : Hp.n + c + d ≤ a.n := Nat.le_of_ble_eq_true q2
    obtain ⟨r, M', f1, f2, f3, f4, f5, f6⟩ := h
    have hbn : bs.length = Hp.n := hm.n.symm
    have hn : (bs ++ r).length = a.n := by rw [c1]; exact f4.n.symm
    let ρ := shiftN Hp.n c d
    have ρlow : ∀ k, k < Hp.n → ρ k = k := fun k hk => by show shiftN Hp.n c d k = k; rw [shiftN_eq, if_pos hk]
    have ρhigh : ∀ k, Hp.n ≤ k → k < a.n → Hp.n ≤ ρ k ∧ ρ k < a.n := fun k h1 h2 => by
      show Hp.n ≤ shiftN Hp.n c d k ∧ shiftN Hp.n c d k < a.n
      rw [shiftN_eq, if_neg (by omega)]
      split
      · omega
      · split <;> omega
    have ρfar : ∀ k, a.n ≤ k → ρ k = k := fun k hk => by
      show shiftN Hp.n c d k = k
      rw [shiftN_eq, if_neg (by omega), if_neg (by omega), if_neg (by omega)]
    have ρinj : ∀ j k, ρ j = ρ k → j = k := fun j k h => by
      have := congrArg (shiftN Hp.n d c) h
      rwa [shiftN_back, shiftN_back] at this
    let r' : Bs := (List.range r.length).map fun i => (bs ++ r).getD (ρ (Hp.n + i)) (0, 0, 0)
    have hr' : r'.length = r.length := by simp [r']
    have turn : Turn ρ (bs ++ r') (bs ++ r) := fun k => by
      rcases Nat.lt_or_ge k Hp.n with h1 | h1
      · rw [ρlow k h1, List.getElem?_append_left (by omega), List.getElem?_append_left (by omega)]
      · rcases Nat.lt_or_ge k a.n with h2 | h2
        · obtain ⟨g1, g2⟩ := ρhigh k h1 h2
          have hl : k - bs.length < r.length := by rw [List.length_append] at hn; omega
          rw [List.getElem?_append_right (by omega)]
          have : r'[k - bs.length]? = some ((bs ++ r).getD (ρ (Hp.n + (k - bs.length))) (0, 0, 0)) := by
            simp only [r', List.getElem?_map, List.getElem?_range hl, Option.map_some]
          rw [this, show Hp.n + (k - bs.length) = k by omega]
          rw [List.getD_eq_getElem?_getD, List.getElem?_eq_getElem (by rw [hn]; exact g2)]
          rfl
        · rw [ρfar k h2, List.getElem?_eq_none (by rw [List.length_append] at hn ⊢; omega), List.getElem?_eq_none (by omega)]
    have key : ∀ k o, a.h.get k = some o → (∃ o', b.h.get (ρ k) = some o' ∧ O.same ρ o o' = true) ∨ (k < Hp.n ∧ k ∉ b.log ∧ Hp.h.get k = some o) := fun k o hk => by
      by_cases hb : ρ k ∈ b.log
      · refine .inl (keysL_ok q5 ?_ hk)
        have := mapN_mem (ρ := shiftN Hp.n d c) hb
        rwa [show shiftN Hp.n d c (ρ k) = k from shiftN_back _ _ _ _] at this
      · rcases ha.h k o hk with h | h | h
        · exact .inl (keysL_ok q4 h hk)
        · have hsub : Nat.sub a.n Hp.n = a.n - Hp.n := rfl
          exact .inl (keysL_ok q6 (fromL_mem h.1 (by rw [hsub]; omega)) hk)
        · have hlt : k < Hp.n := by rw [← hbn]; exact hm.lt h
          rw [ρlow k hlt] at hb
          exact .inr ⟨hlt, hb, h⟩
    have back : ∀ {k o x}, Hp.h.get k = some o → (bs ++ r)[k]? = some x → bs[k]? = some x := fun {k o x} hk hx => by
      have := hm.lt hk
      rwa [List.getElem?_append_left this] at hx
    have stay : ∀ {k o b' base av o'}, Hp.h.get k = some o → bs[k]? = some (b', base, av) → (b', o') ∈ M → ∀ W, (∀ j ∈ b.log, j ∈ W) → k ∉ W → (b', o') ∈ M' ∧ ∀ j u x y, b.h.get j = some u → (bs ++ r)[j]? = some (b', x, y) → j ∉ W := fun {k o b' base av o'} hk hb hM W hW hkW =>
      f6 W [(b', o')] hW (fun q hq => by
        obtain rfl := List.mem_singleton.1 hq
        exact ⟨hM, fun j u x y hj hjb => by rw [hm.inj j k u o b' x y base av hj hk hjb hb]; exact hkW⟩) (b', o') (List.mem_singleton.2 rfl)
    have mix : ∀ {j k o u b' x y x' y'}, b.h.get j = some u → k ∉ b.log → Hp.h.get k = some o → (bs ++ r)[j]? = some (b', x, y) → (bs ++ r)[k]? = some (b', x', y') → j = k := fun {j k o u b' x y x' y'} hj hkl hk hjb hkb => by
      by_cases e : j = k
      · exact e
      · exfalso
        obtain ⟨b2, base, av, i, o', a1, a2, a3⟩ := hm.at_ k o hk
        have hkb' := back hk hkb
        rw [a1] at hkb'; cases hkb'
        have := stay hk a1 (List.mem_of_getElem? a2) (b.log ++ [j]) (fun q hq => List.mem_append_left _ hq) (by
          simp only [List.mem_append, List.mem_singleton, not_or]; exact ⟨hkl, fun h => e h.symm⟩)
        exact this.2 j u x y hj hjb (by simp)
    refine ⟨r', M', sameD_ok turn q3 f1, f2, fun t v hv => ?_, ⟨?_, fun k o hk => ?_, fun j k o o' b' x y x' y' hj hk hjb hkb => ?_⟩, fun k hk => List.mem_append_right _ (List.mem_append_left _ (f5 k hk)), fun W B hW hB q hq => ?_⟩
    · obtain ⟨u, g1, g2⟩ := hs t v hv
      obtain ⟨v', g3, g4⟩ := f3 t u g1
      exact ⟨v', g3, V.same_ok turn g2 g4⟩
    · show a.n = (bs ++ r').length
      rw [List.length_append, hr', ← List.length_append, hn]
    · rcases key k o hk with ⟨o2, h, h'⟩ | ⟨h0, h1, h2⟩
      · obtain ⟨b2, base, av, i, o', a1, a2, a3⟩ := f4.at_ _ _ h
        exact ⟨b2, base, av, i, o', by rw [turn]; exact a1, a2, O.same_ok turn h' a3⟩
      · obtain ⟨b2, base, av, i, o', a1, a2, a3⟩ := hm.at_ k o h2
        obtain ⟨g1, _⟩ := stay h2 a1 (List.mem_of_getElem? a2) b.log (fun _ h => h) h1
        obtain ⟨i2, hi2⟩ := List.mem_iff_getElem?.1 g1
        exact ⟨b2, base, av, i2, o', bs_mono a1, hi2, a3.mono r'⟩
    · rw [turn] at hjb hkb
      rcases key j o hj with ⟨o2, h, _⟩ | ⟨h0, h1, h2⟩
      · rcases key k o' hk with ⟨o3, h3, _⟩ | ⟨h30, h3, h4⟩
        · exact ρinj _ _ (f4.inj _ _ _ _ b' x y x' y' h h3 hjb hkb)
        · rw [ρlow k h30] at hkb
          have := mix h h3 h4 hjb hkb
          rw [← ρlow k h30] at this
          exact ρinj _ _ this
      · rw [ρlow j h0] at hjb
        rcases key k o' hk with ⟨o3, h3, _⟩ | ⟨h30, h3, h4⟩
        · have := mix h3 h1 h2 hkb hjb
          rw [← ρlow j h0] at this
          exact (ρinj _ _ this).symm
        · rw [ρlow k h30] at hkb
          exact hm.inj j k o o' b' x y x' y' h2 h4 (back h2 hjb) (back h4 hkb)
    · have low : ∀ {x : Nat}, x < Hp.n → x ∈ mapN ρ W → x ∈ W := by
        intro x hx hm
        have : ∀ l : List Nat, x ∈ mapN ρ l → x ∈ l := by
          intro l
          induction l with
          | nil => intro h; cases h
          | cons y l ih =>
            intro h
            rcases List.mem_cons.1 h with h | h
            · have : ρ y = ρ x := by rw [ρlow x hx]; exact h.symm
              rw [← ρinj _ _ this]; exact List.mem_cons_self
            · exact List.mem_cons_of_mem _ (ih h)
        exact this W hm
      obtain ⟨g1, g2⟩ := f6 (mapN ρ W) B (fun k hk => by
        have h1 := hW (shiftN Hp.n d c k) (List.mem_append_right _ (List.mem_append_right _ (mapN_mem hk)))
        have h2 := mapN_mem (ρ := ρ) h1
        rwa [show ρ (shiftN Hp.n d c k) = k from shiftN_back _ _ _ _] at h2) (fun q hq => ⟨(hB q hq).1, fun j o x y hj hjb hW2 => (hB q hq).2 j o x y hj hjb (low (by rw [← hbn]; exact hm.lt hj) hW2)⟩) q hq
      refine ⟨g1, fun j o x y hj hjb hjW => ?_⟩
      rcases key j o hj with ⟨o2, h, _⟩ | ⟨h0, _, h2⟩
      · rw [turn] at hjb
        exact g2 _ _ x y h hjb (mapN_mem hjW)
      · rw [turn, ρlow j h0] at hjb
        exact (hB q hq).2 j o x y h2 (back h2 hjb) hjW
  · cases hc

/-- Slots that say the same. -/
def sameL (ρ : Nat → Nat) : List (Nat × V) → List (Nat × V) → Bool
  | [], [] => true
  | (a, b) :: r, (a', b') :: r' => match Nat.beq a a', V.same ρ b b' with
    | true, true => sameL ρ r r'
    | _, _ => false
  | _, _ => false
theorem sameL_ok {ρ : Nat → Nat} : ∀ {a b : List (Nat × V)}, sameL ρ a b = true → ∀ {t : Nat} {v : V}, lookL a t = some v → ∃ u, lookL b t = some u ∧ V.same ρ v u = true
  | [], [], _, _, _, h => by cases h
  | [], _ :: _, h, _, _, _ => by cases h
  | _ :: _, [], h, _, _, _ => by cases h
  | (a, b) :: r, (a', b') :: r', h, t, v, hv => by
    simp only [sameL] at h
    split at h
    · rename_i h1 h2
      obtain rfl := Nat.eq_of_beq_eq_true h1
      rw [lookL_cons] at hv ⊢
      by_cases e : a = t
      · rw [if_pos e] at hv ⊢; cases hv; exact ⟨b', rfl, h2⟩
      · rw [if_neg e] at hv ⊢; exact sameL_ok h hv
    · cases h
def keysOk (ρ : Nat → Nat) (a b : S) : List (Nat × V) → Bool
  | [] => true
  | p :: r => match (match a.get p.1, b.get p.1 with
    | some x, some y => V.same ρ x y
    | none, none => true
    | _, _ => false) with
    | true => keysOk ρ a b r
    | false => false
theorem keysOk_ok {ρ : Nat → Nat} {a b : S} : ∀ {l : List (Nat × V)}, keysOk ρ a b l = true → ∀ {t : Nat} {v : V}, lookL l t ≠ none → a.get t = some v → ∃ u, b.get t = some u ∧ V.same ρ v u = true
  | [], _, t, v, h, _ => absurd rfl h
  | p :: r, h, t, v, hl, ha => by
    simp only [keysOk] at h
    split at h
    · rename_i h1
      rw [lookL_cons] at hl
      by_cases e : p.1 = t
      · rw [e, ha] at h1
        split at h1
        · rename_i x y e1 e2
          cases e1
          exact ⟨y, e2, h1⟩
        · rename_i e1 _; cases e1
        · cases h1
      · rw [if_neg e] at hl
        exact keysOk_ok h hl ha
    · cases h
def S.leq (ρ : Nat → Nat) (a b : S) : Bool := match Nat.beq a.mask b.mask, sameL ρ a.old b.old, keysOk ρ a b a.new, keysOk ρ a b b.new with
  | true, true, true, true => true
  | _, _, _, _ => false
theorem S.leq_ok {ρ : Nat → Nat} {a b : S} (h : S.leq ρ a b = true) {t : Nat} {v : V} (ha : a.get t = some v) : ∃ u, b.get t = some u ∧ V.same ρ v u = true := by
  unfold S.leq at h
  split at h
  · rename_i h1 h2 h3 h4
    by_cases e1 : lookL a.new t = none
    · by_cases e2 : lookL b.new t = none
      · rw [S.get_eq, e1] at ha
        rw [S.get_eq, e2, ← Nat.eq_of_beq_eq_true h1]
        simp only at ha ⊢
        split at ha
        · rename_i hb
          simp only [hb]
          exact sameL_ok h2 ha
        · cases ha
      · exact keysOk_ok h4 e2 ha
    · exact keysOk_ok h3 e1 ha
  · cases h

/-- All of these are new. -/
def newN (n : Nat) : List Nat → Bool
  | [] => true
  | k :: r => match Nat.ble n k with
    | true => newN n r
    | false => false
theorem newN_ok {n : Nat} : ∀ {l : List Nat}, newN n l = true → ∀ k ∈ l, n ≤ k
  | [], _, _, h => by cases h
  | j :: r, h, k, hk => by
    simp only [newN] at h
    split at h
    · rename_i h1
      rcases List.mem_cons.1 hk with rfl | hk
      · exact Nat.le_of_ble_eq_true h1
      · exact newN_ok h k hk
    · cases h
end
end Go.Proofs.Ytcnbecdpfildnaa
