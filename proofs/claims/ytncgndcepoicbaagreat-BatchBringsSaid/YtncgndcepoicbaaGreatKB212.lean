/-
  A part of what the last of these texts needs; by itself it proves no statement.
-/
import Derived.Test.YtncgndcepoicbaaGreatKB211
namespace Go.Proofs.YtncgndcepoicbaaGreat
open Go.ChangeShapes Go.WideShapes Go.ChangeAt Go.RowKit
theorem okWide_array {P : Program} {w : World} {r : Reach} {base t : TypeId} {v : Value} {n : Nat} {e : TypeId} (ht : P.underlying t = some (.array n e)) (h : Value.okWide P w r base t v) : ∃ cs, v = .agg cs ∧ cs.size = P.cellsOf t := by
  simp only [Value.okWide, ht] at h
  obtain ⟨cs, h1, h2, _⟩ := h
  exact ⟨cs, h1, h2⟩
theorem arg_arr {P : Program} {t : TypeId} {α : Type} {H : Type} {enc : TypeId × Value → H} {W : World} {rc : Reach} {b0 : TypeId} {r : Rd α} {v : Value} {d : DataW H} {p : List MemPlace} {n : Nat} {e : TypeId} (ht : P.underlying t = some (.array n e)) (hs : Sound P t r)
    (hval : Value.okWide P W rc b0 t v) (h : DataW.Trod enc P W 0 (fun _ => true) true t v d p) : ∃ (cs : Array Value) (x : α), v = .agg cs ∧ cs.size = r.n ∧ r.lie (allL W) x (fun k => cs[k]?) := by
  obtain ⟨cs, rfl, hsz⟩ := okWide_array ht hval
  obtain ⟨fuel, hf⟩ := h
  obtain ⟨x, h1⟩ := hs.2 hf
  exact ⟨cs, x, rfl, by rw [hsz, hs.1], by simpa [Value.cells] using h1⟩
end Go.Proofs.YtncgndcepoicbaaGreat
namespace Go.Proofs.YtncgndcepoicbaaGreat
open Go.RowKit
theorem steps_of {L : List (Nat × Obj)} {a : Option Addr} {cap : Nat} {xs : List StpV} (h : xs.length ≤ cap) (hm : cap ≤ maxLen) (hx : SlLie (pairR (intR .u8) (pairR (intR .u8) (pairR (intR .u8) (intR .u16)))) L a xs) : StpsAt L (.slice a xs.length cap) xs := by
  refine ⟨a, cap, rfl, h, hm, fun j x hj => ?_⟩
  rcases hx with rfl | ⟨b, off, cs, E, fr, i, rfl, hi, hc⟩
  · simp at hj
  obtain ⟨⟨c0, w0⟩, ⟨c1, w1⟩, ⟨c2, w2⟩, c3, w3⟩ := hc j x hj
  have hg : ∀ q, q < 4 → cs[off + j * 4 + q]? = (stpC x.1 x.2.1 x.2.2.1 x.2.2.2).toList[q]? := fun q hq => by
    match q, hq with
    | 0, _ => exact c0
    | 1, _ => exact c1
    | 2, _ => exact c2
    | 3, _ => exact c3
  obtain ⟨e1, e2⟩ := ext_of (n := 4) rfl (by decide) hg
  exact ⟨b, off, cs, E, fr, rfl, List.mem_of_getElem? hi, ⟨u8_bounds w0, u8_bounds w1, u8_bounds w2, u16_bounds w3⟩, e1, e2⟩
theorem ask_of {L : List (Nat × Obj)} {cs : Array Value} {x : List Int × Bool × Int × Int} (hz : cs.size = 11) (h : (pairR (arrR 8 (intR .u8)) (pairR boolR (pairR (intR .i64) (intR .i8)))).lie L x (fun k => cs[k]?)) : x.1.length = 8 ∧ (∀ y ∈ x.1, 0 ≤ y ∧ y < 256) ∧ cs = askC x.1 x.2.1 x.2.2.1 x.2.2.2 := by
  obtain ⟨ws, any, at_, mo⟩ := x
  obtain ⟨⟨h8, hw⟩, ha, ⟨hat, _⟩, hmo, _⟩ := h
  simp only at h8 hw ha hat hmo ⊢
  refine ⟨h8, fun y hy => ?_, ?_⟩
  · obtain ⟨j, hj⟩ := List.mem_iff_getElem?.1 hy
    exact u8_bounds (hw j y hj).2
  · apply Array.ext_getElem?
    intro k
    by_cases hk : k < 8
    · obtain ⟨y, hy⟩ : ∃ y, ws[k]? = some y := ⟨_, List.getElem?_eq_getElem (by omega)⟩
      have h1 : cs[k * 1 + 0]? = some (.int .u8 y) := (hw k y hy).1
      rw [Nat.mul_one, Nat.add_zero] at h1
      rw [h1, askC, List.getElem?_toArray, List.getElem?_append_left (by simp; omega), List.getElem?_map, hy]
      rfl
    · by_cases hk2 : k < 11
      · obtain ⟨e8, e9, e10⟩ := askC_end (any := any) (at_ := at_) (most := mo) h8
        have : k = 8 ∨ k = 9 ∨ k = 10 := by omega
        rcases this with rfl | rfl | rfl
        · rw [e8]; exact ha
        · rw [e9]; exact hat
        · rw [e10]; exact hmo
      · rw [Array.getElem?_eq_none (by omega), Array.getElem?_eq_none (by rw [askC_size h8]; omega)]
theorem size_of2 {L : List (Nat × Obj)} {cs : Array Value} {x : List Int} (hz : cs.size = 2) (h : (arrR 2 (intR .u8)).lie L x (fun k => cs[k]?)) : ∃ s0 s1, (0 ≤ s0 ∧ s0 < 256) ∧ (0 ≤ s1 ∧ s1 < 256) ∧ cs = #[.int .u8 s0, .int .u8 s1] := by
  obtain ⟨h2, hw⟩ := h
  obtain ⟨s0, e0⟩ : ∃ y, x[0]? = some y := ⟨_, List.getElem?_eq_getElem (by omega)⟩
  obtain ⟨s1, e1⟩ : ∃ y, x[1]? = some y := ⟨_, List.getElem?_eq_getElem (by omega)⟩
  obtain ⟨c0, w0⟩ := hw 0 s0 e0
  obtain ⟨c1, w1⟩ := hw 1 s1 e1
  refine ⟨s0, s1, u8_bounds w0, u8_bounds w1, ?_⟩
  apply Array.ext_getElem?
  intro j
  match j with
  | 0 => exact c0
  | 1 => exact c1
  | j + 2 => rw [Array.getElem?_eq_none (by omega), Array.getElem?_eq_none (by simp)]
end Go.Proofs.YtncgndcepoicbaaGreat
