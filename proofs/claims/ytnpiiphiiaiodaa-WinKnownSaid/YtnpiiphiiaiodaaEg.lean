/-
  Running a program's function by computing: which values are the same, and which lead to old blocks only. It proves no statement by itself. It holds for every program.
-/
import Derived.Test.YtnpiiphiiaiodaaEm
namespace Go.Proofs.Ytnpiiphiiaiodaa
open Go.RowKit
attribute [local irreducible] T.put T.set

mutual
/-- All its numbers are below n. -/
def V.low (n : Nat) : V → Bool
  | .ptr k _ => Nat.blt k n
  | .sl k _ _ _ => Nat.blt k n
  | .map k => Nat.blt k n
  | .yld k => Nat.blt k n
  | .fn _ A B => match V.lows n A with
    | true => V.lows n B
    | false => false
  | .ifc _ v => V.low n v
  | .agg l => V.lows n l
  | .tup l => V.lows n l
  | _ => true
def V.lows (n : Nat) : List V → Bool
  | [] => true
  | v :: r => match V.low n v with
    | true => V.lows n r
    | false => false
end

theorem bs_strip {bs r : Bs} {k : Nat} {x : Nat × Nat × Nat} (h : (bs ++ r)[k]? = some x) (hk : Nat.blt k bs.length = true) : bs[k]? = some x := by
  rw [Nat.blt_eq] at hk
  rwa [List.getElem?_append_left hk] at h

mutual
theorem RV.strip {bs r : Bs} : ∀ {v : V} {v' : Value}, RV (bs ++ r) v v' → V.low bs.length v = true → RV bs v v'
  | _, _, .int k n, _ => .int k n
  | _, _, .bool b, _ => .bool b
  | _, _, .str s, _ => .str s
  | _, _, .ptrN, _ => .ptrN
  | _, _, .ptr h, hl => .ptr (bs_strip h (by simpa [V.low] using hl))
  | _, _, .slN, _ => .slN
  | _, _, .sl h h1 h2 h3 h4, hl => .sl (bs_strip h (by simpa [V.low] using hl)) h1 h2 h3 h4
  | _, _, .fn f hA hB, hl => by
    simp only [V.low] at hl
    split at hl
    · rename_i h1; exact .fn f (RVs.strip hA h1) (RVs.strip hB hl)
    · cases hl
  | _, _, .nilf, _ => .nilf
  | _, _, .ifc t h, hl => .ifc t (RV.strip h (by simpa only [V.low] using hl))
  | _, _, .nili, _ => .nili
  | _, _, .mapN, _ => .mapN
  | _, _, .map h, hl => .map (bs_strip h (by simpa [V.low] using hl))
  | _, _, .agg h, hl => .agg (RVs.strip h (by simpa only [V.low] using hl))
  | _, _, .yld h, hl => .yld (bs_strip h (by simpa [V.low] using hl))
  | _, _, .tup h, hl => .tup (RVs.strip h (by simpa only [V.low] using hl))
theorem RVs.strip {bs r : Bs} : ∀ {l : List V} {l' : List Value}, RVs (bs ++ r) l l' → V.lows bs.length l = true → RVs bs l l'
  | _, _, .nil, _ => .nil
  | _, _, .cons h hl, hh => by
    simp only [V.lows] at hh
    split at hh
    · rename_i h1; exact .cons (RV.strip h h1) (RVs.strip hl hh)
    · cases hh
end

/-! ### what is the same -/
def beqL (a b : List UInt8) : Bool := a == b
def beqK (a b : IntKind) : Bool := decide (a = b)
def beqI (a b : Int) : Bool := decide (a = b)
mutual
def V.same : V → V → Bool
  | .int k n, .int k' n' => beqK k k' && beqI n n'
  | .bool b, .bool b' => b == b'
  | .str s, .str s' => decide (s = s')
  | .ptrN, .ptrN => true
  | .ptr k o, .ptr k' o' => Nat.beq k k' && Nat.beq o o'
  | .slN, .slN => true
  | .sl a b c d, .sl a' b' c' d' => Nat.beq a a' && Nat.beq b b' && Nat.beq c c' && Nat.beq d d'
  | .fn f A B, .fn f' A' B' => decide (f = f') && V.sames A A' && V.sames B B'
  | .nilf, .nilf => true
  | .ifc t v, .ifc t' v' => Nat.beq t t' && V.same v v'
  | .nili, .nili => true
  | .mapN, .mapN => true
  | .map k, .map k' => Nat.beq k k'
  | .agg l, .agg l' => V.sames l l'
  | .tup l, .tup l' => V.sames l l'
  | .yld k, .yld k' => Nat.beq k k'
  | _, _ => false
def V.sames : List V → List V → Bool
  | [], [] => true
  | v :: r, v' :: r' => V.same v v' && V.sames r r'
  | _, _ => false
end
mutual
theorem V.same_ok : ∀ {a b : V}, V.same a b = true → a = b
  | a, b, h => by
    cases a <;> cases b <;> simp only [V.same, Bool.and_eq_true, beqK, beqI, decide_eq_true_eq, beq_iff_eq] at h <;> first
      | (cases h; done)
      | rfl
      | (obtain ⟨rfl, rfl⟩ := h; rfl)
      | (subst h; rfl)
      | (rw [Nat.eq_of_beq_eq_true h]; done)
      | (rw [Nat.eq_of_beq_eq_true h.1, Nat.eq_of_beq_eq_true h.2]; done)
      | (rw [Nat.eq_of_beq_eq_true h.1.1.1, Nat.eq_of_beq_eq_true h.1.1.2, Nat.eq_of_beq_eq_true h.1.2, Nat.eq_of_beq_eq_true h.2]; done)
      | (rw [h.1.1, V.sames_ok h.1.2, V.sames_ok h.2]; done)
      | (rw [Nat.eq_of_beq_eq_true h.1, V.same_ok h.2]; done)
      | (rw [V.sames_ok h]; done)
theorem V.sames_ok : ∀ {a b : List V}, V.sames a b = true → a = b
  | [], [], _ => rfl
  | [], _ :: _, h => by cases h
  | _ :: _, [], h => by cases h
  | v :: r, v' :: r', h => by
    simp only [V.sames, Bool.and_eq_true] at h
    rw [V.same_ok h.1, V.sames_ok h.2]
end
def T.same {α : Type} (f : α → α → Bool) : T α → T α → Bool
  | .e, .e => true
  | .n l v r, .n l' v' r' => (match v, v' with
    | some a, some b => f a b
    | none, none => true
    | _, _ => false) && T.same f l l' && T.same f r r'
  | _, _ => false
theorem T.same_ok {α : Type} {f : α → α → Bool} (hf : ∀ a b, f a b = true → a = b) : ∀ {a b : T α}, T.same f a b = true → a = b
  | .e, .e, _ => rfl
  | .e, .n _ _ _, h => by cases h
  | .n _ _ _, .e, h => by cases h
  | .n l v r, .n l' v' r', h => by
    simp only [T.same, Bool.and_eq_true] at h
    have hv : v = v' := by
      cases v <;> cases v' <;> first
        | rfl
        | (cases h.1.1; done)
        | (rw [hf _ _ h.1.1])
    rw [hv, T.same_ok hf h.1.2, T.same_ok hf h.2]
def sameP : List (V × V) → List (V × V) → Bool
  | [], [] => true
  | (a, b) :: r, (a', b') :: r' => V.same a a' && V.same b b' && sameP r r'
  | _, _ => false
theorem sameP_ok : ∀ {a b : List (V × V)}, sameP a b = true → a = b
  | [], [], _ => rfl
  | [], _ :: _, h => by cases h
  | _ :: _, [], h => by cases h
  | (a, b) :: r, (a', b') :: r', h => by
    simp only [sameP, Bool.and_eq_true] at h
    rw [V.same_ok h.1.1, V.same_ok h.1.2, sameP_ok h.2]
def O.same : O → O → Bool
  | .cells t E, .cells t' E' => Nat.beq E E' && T.same V.same t t'
  | .map l, .map l' => sameP l l'
  | .defer, .defer => true
  | .gone, .gone => true
  | _, _ => false
theorem O.same_ok : ∀ {a b : O}, O.same a b = true → a = b
  | .cells t E, .cells t' E', h => by
    simp only [O.same, Bool.and_eq_true] at h
    rw [Nat.eq_of_beq_eq_true h.1, T.same_ok (fun _ _ => V.same_ok) h.2]
  | .map l, .map l', h => by
    simp only [O.same] at h
    rw [sameP_ok h]
  | .cells _ _, .map _, h => by cases h
  | .map _, .cells _ _, h => by cases h
  | .cells _ _, .loop _ _, h => by cases h
  | .cells _ _, .defer, h => by cases h
  | .cells _ _, .gone, h => by cases h
  | .map _, .loop _ _, h => by cases h
  | .map _, .defer, h => by cases h
  | .map _, .gone, h => by cases h
  | .loop _ _, _, h => by cases h
  | .defer, .defer, _ => rfl
  | .defer, .cells _ _, h => by cases h
  | .defer, .map _, h => by cases h
  | .defer, .loop _ _, h => by cases h
  | .defer, .gone, h => by cases h
  | .gone, .gone, _ => rfl
  | .gone, .cells _ _, h => by cases h
  | .gone, .map _, h => by cases h
  | .gone, .loop _ _, h => by cases h
  | .gone, .defer, h => by cases h
def sameN : List Nat → List Nat → Bool
  | [], [] => true
  | a :: r, a' :: r' => Nat.beq a a' && sameN r r'
  | _, _ => false
theorem sameN_ok : ∀ {a b : List Nat}, sameN a b = true → a = b
  | [], [], _ => rfl
  | [], _ :: _, h => by cases h
  | _ :: _, [], h => by cases h
  | a :: r, a' :: r', h => by
    simp only [sameN, Bool.and_eq_true] at h
    rw [Nat.eq_of_beq_eq_true h.1, sameN_ok h.2]
def H.same (a b : H) : Bool := Nat.beq a.n b.n && sameN a.log b.log && T.same O.same a.h b.h && sameN a.ds b.ds
theorem H.same_ok {a b : H} (h : H.same a b = true) : a = b := by
  obtain ⟨ah, an, al, ad⟩ := a
  obtain ⟨bh, bn, bl, bd⟩ := b
  simp only [H.same, Bool.and_eq_true] at h
  obtain ⟨⟨⟨h1, h2⟩, h3⟩, h4⟩ := h
  rw [Nat.eq_of_beq_eq_true h1, sameN_ok h2, T.same_ok (fun _ _ => O.same_ok) h3, sameN_ok h4]

/-- All of these are new. -/
def newN (n : Nat) : List Nat → Bool
  | [] => true
  | k :: r => match Nat.ble n k with
    | true => newN n r
    | false => false
theorem newN_ok {n : Nat} : ∀ {l : List Nat}, newN n l = true → ∀ k ∈ l, n ≤ k
  | [], _, _, h => by cases h
  | j :: r, h, k, hk => by
    simp only [newN] at h
    split at h
    · rename_i h1
      rcases List.mem_cons.1 hk with rfl | hk
      · exact Nat.le_of_ble_eq_true h1
      · exact newN_ok h k hk
    · cases h
end Go.Proofs.Ytnpiiphiiaiodaa
