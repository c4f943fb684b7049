/-
  A part of what the last of these texts needs; by itself it proves no statement.
-/
import Derived.Test.YtekmmhmhcpaiaaaGreatKP43
namespace Go.Proofs.YtekmmhmhcpaiaaaGreat
open Go.RowKit
theorem su_of {L : List (Nat × Obj)} {cs : Array Value} {x : Int × Int × Int × Int} (hz : cs.size = 4) (h : (pairR (intR .u8) (pairR (intR .u8) (pairR (intR .u8) (intR .u8)))).lie L x (fun k => cs[k]?)) : u8q x.1 ∧ u8q x.2.1 ∧ u8q x.2.2.1 ∧ u8q x.2.2.2 ∧ cs = suC x.1 x.2.1 x.2.2.1 x.2.2.2 := by
  obtain ⟨⟨c0, w0⟩, ⟨c1, w1⟩, ⟨c2, w2⟩, c3, w3⟩ := h
  refine ⟨u8_bounds w0, u8_bounds w1, u8_bounds w2, u8_bounds w3, ?_⟩
  apply Array.ext_getElem?
  intro j
  match j with
  | 0 => exact c0
  | 1 => exact c1
  | 2 => exact c2
  | 3 => exact c3
  | j + 4 => rw [Array.getElem?_eq_none (by omega), Array.getElem?_eq_none (by simp)]
theorem cells_vec {α β : Type} {sz : Nat} {L : List (Nat × Obj)} {a : Option Addr} {cap : Nat} {r : Rd α} {xs : List α} (f : α → β) (cC : β → List Value) (R : β → Prop) (hsz : r.n = sz) (hs : 0 < sz) (hC : ∀ x, (cC x).length = sz) (hr : ∀ (x : α) (g : Nat → Option Value), r.lie L x g → R (f x) ∧ ∀ q, q < sz → g q = (cC (f x))[q]?) (h : xs.length ≤ cap) (hm : cap ≤ maxLen) (hx : SlLie r L a xs) :
    VecM sz L (.slice a (xs.map f).length cap) (xs.map f).length ((xs.map f).flatMap cC) ∧ ∀ y ∈ xs.map f, R y := by
  have hl : ∀ l : List β, (l.flatMap cC).length = l.length * sz := fun l => by
    induction l with
    | nil => simp
    | cons x l ih => rw [List.flatMap_cons, List.length_append, ih, hC, List.length_cons, Nat.succ_mul]; omega
  have hg : ∀ (l : List β) (k : Nat), (l.flatMap cC)[k]? = (l[k / sz]?).bind fun x => (cC x)[k % sz]? := fun l => by
    induction l with
    | nil => intro k; simp
    | cons x l ih =>
      intro k
      rw [List.flatMap_cons]
      by_cases hk : k < sz
      · rw [List.getElem?_append_left (by rw [hC]; exact hk), Nat.div_eq_of_lt hk, Nat.mod_eq_of_lt hk]
        rfl
      · have e : k = k - sz + sz := by omega
        have e1 : k / sz = (k - sz) / sz + 1 := by
          conv => lhs; rw [e]
          exact Nat.add_div_right _ hs
        have e2 : k % sz = (k - sz) % sz := by
          conv => lhs; rw [e]
          exact Nat.add_mod_right _ _
        rw [List.getElem?_append_right (by rw [hC]; omega), hC, ih, e1, e2, List.getElem?_cons_succ]
  have hml : (xs.map f).length = xs.length := List.length_map ..
  rcases hx with rfl | ⟨b, off, cs, E, fr, i, rfl, hi, hc⟩
  · exact ⟨⟨hl _, _, _, rfl, h, hm, .inl rfl⟩, fun _ h => nomatch h⟩
  · refine ⟨⟨hl _, _, _, rfl, by rw [hml]; exact h, hm, .inr ⟨b, off, cs, E, fr, rfl, List.mem_of_getElem? hi, fun j v hj => ?_⟩⟩, ?_⟩
    · rw [hg] at hj
      obtain ⟨y, hy, hv⟩ := Option.bind_eq_some_iff.1 hj
      rw [List.getElem?_map] at hy
      obtain ⟨x, hx, rfl⟩ := Option.map_eq_some_iff.1 hy
      have := (hr x _ (hc _ x hx)).2 (j % sz) (Nat.mod_lt _ hs)
      rw [hsz, Nat.add_assoc, Nat.mul_comm, Nat.div_add_mod] at this
      rw [this]
      exact hv
    · intro y hy
      obtain ⟨x, hx, rfl⟩ := List.mem_map.1 hy
      obtain ⟨j, hj⟩ := List.mem_iff_getElem?.1 hx
      exact (hr x _ (hc j x hj)).1
def swOf (x : Int × Int × Int × Int × Int × Int) : SwV := ⟨x.1, x.2.1, x.2.2.1, x.2.2.2.1, x.2.2.2.2.1, x.2.2.2.2.2⟩
def puOf (x : Int × Int × Int × Int) : PuV := ⟨x.1, x.2.1, x.2.2.1, x.2.2.2⟩
theorem sw_of {L : List (Nat × Obj)} {a : Option Addr} {cap : Nat} {xs : List (Int × Int × Int × Int × Int × Int)} (h : xs.length ≤ cap) (hm : cap ≤ maxLen) (hx : SlLie (pairR (intR .u8) (pairR (intR .u8) (pairR (intR .u8) (pairR (intR .u8) (pairR (intR .u8) (intR .u8)))))) L a xs) :
    VecM 6 L (.slice a (xs.map swOf).length cap) (xs.map swOf).length (swL (xs.map swOf)) ∧ ∀ y ∈ xs.map swOf, SwR y := by
  refine cells_vec swOf swC SwR rfl (by decide) (fun _ => rfl) (fun x g hg => ?_) h hm hx
  obtain ⟨⟨c0, w0⟩, ⟨c1, w1⟩, ⟨c2, w2⟩, ⟨c3, w3⟩, ⟨c4, w4⟩, c5, w5⟩ := hg
  refine ⟨⟨u8_bounds w0, u8_bounds w1, u8_bounds w2, u8_bounds w3, u8_bounds w4, u8_bounds w5⟩, fun q hq => ?_⟩
  match q, hq with
  | 0, _ => exact c0
  | 1, _ => exact c1
  | 2, _ => exact c2
  | 3, _ => exact c3
  | 4, _ => exact c4
  | 5, _ => exact c5
theorem pu_of {L : List (Nat × Obj)} {a : Option Addr} {cap : Nat} {xs : List (Int × Int × Int × Int)} (h : xs.length ≤ cap) (hm : cap ≤ maxLen) (hx : SlLie (pairR (intR .u8) (pairR (intR .u8) (pairR (intR .u16) (intR .i64)))) L a xs) :
    VecM 4 L (.slice a (xs.map puOf).length cap) (xs.map puOf).length (puL (xs.map puOf)) ∧ ∀ y ∈ xs.map puOf, PuR y := by
  refine cells_vec puOf puC PuR rfl (by decide) (fun _ => rfl) (fun x g hg => ?_) h hm hx
  obtain ⟨⟨c0, w0⟩, ⟨c1, w1⟩, ⟨c2, w2⟩, c3, w3⟩ := hg
  refine ⟨⟨u8_bounds w0, u8_bounds w1, u16_bounds w2, i64_bounds w3⟩, fun q hq => ?_⟩
  match q, hq with
  | 0, _ => exact c0
  | 1, _ => exact c1
  | 2, _ => exact c2
  | 3, _ => exact c3
end Go.Proofs.YtekmmhmhcpaiaaaGreat
