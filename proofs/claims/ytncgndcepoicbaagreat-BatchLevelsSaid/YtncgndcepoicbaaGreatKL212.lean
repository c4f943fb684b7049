/-
  A part of what the last of these texts needs; by itself it proves no statement.
-/
import Derived.Test.YtncgndcepoicbaaGreatKL211
namespace Go.Proofs.YtncgndcepoicbaaGreat
open Go.RowKit
theorem steps_of {L : List (Nat × Obj)} {a : Option Addr} {cap : Nat} {xs : List StpV} (h : xs.length ≤ cap) (hm : cap ≤ maxLen) (hx : SlLie (pairR (intR .u8) (pairR (intR .u8) (pairR (intR .u8) (intR .u16)))) L a xs) : StpsAt L (.slice a xs.length cap) xs := by
  refine ⟨a, cap, rfl, h, hm, fun j x hj => ?_⟩
  rcases hx with rfl | ⟨b, off, cs, E, fr, i, rfl, hi, hc⟩
  · simp at hj
  obtain ⟨⟨c0, w0⟩, ⟨c1, w1⟩, ⟨c2, w2⟩, c3, w3⟩ := hc j x hj
  have hg : ∀ q, q < 4 → cs[off + j * 4 + q]? = (stpC x.1 x.2.1 x.2.2.1 x.2.2.2).toList[q]? := fun q hq => by
    match q, hq with
    | 0, _ => exact c0
    | 1, _ => exact c1
    | 2, _ => exact c2
    | 3, _ => exact c3
  obtain ⟨e1, e2⟩ := ext_of (n := 4) rfl (by decide) hg
  exact ⟨b, off, cs, E, fr, rfl, List.mem_of_getElem? hi, ⟨u8_bounds w0, u8_bounds w1, u8_bounds w2, u16_bounds w3⟩, e1, e2⟩
theorem size_of2 {L : List (Nat × Obj)} {cs : Array Value} {x : List Int} (hz : cs.size = 2) (h : (arrR 2 (intR .u8)).lie L x (fun k => cs[k]?)) : ∃ s0 s1, (0 ≤ s0 ∧ s0 < 256) ∧ (0 ≤ s1 ∧ s1 < 256) ∧ cs = #[.int .u8 s0, .int .u8 s1] := by
  obtain ⟨h2, hw⟩ := h
  obtain ⟨s0, e0⟩ : ∃ y, x[0]? = some y := ⟨_, List.getElem?_eq_getElem (by omega)⟩
  obtain ⟨s1, e1⟩ : ∃ y, x[1]? = some y := ⟨_, List.getElem?_eq_getElem (by omega)⟩
  obtain ⟨c0, w0⟩ := hw 0 s0 e0
  obtain ⟨c1, w1⟩ := hw 1 s1 e1
  refine ⟨s0, s1, u8_bounds w0, u8_bounds w1, ?_⟩
  apply Array.ext_getElem?
  intro j
  match j with
  | 0 => exact c0
  | 1 => exact c1
  | j + 2 => rw [Array.getElem?_eq_none (by omega), Array.getElem?_eq_none (by simp)]
end Go.Proofs.YtncgndcepoicbaaGreat
