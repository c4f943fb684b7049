/-
  A part of what the last of these texts needs; by itself it proves no statement.
-/
import Derived.Test.YtncgndcepoicbaaGreatKH33
namespace Go.Proofs.YtncgndcepoicbaaGreat
open Go.ChangeShapes Go.WideShapes Go.ChangeAt Go.RowKit
theorem acts_h {α : Type} {fr : Rd α} {L : List (Nat × Obj)} {a : Option Addr} {cap : Nat} {xs : List (Int × Int × Int × Int × Int × Int × List α)} (h : xs.length ≤ cap) (hm : cap ≤ maxLen) (hx : SlLie (pairR (intR .u8) (pairR (intR .u8) (pairR (intR .u8) (pairR (intR .u8) (pairR (intR .i8) (pairR (intR .i8) (sliceR fr))))))) L a xs) : ∃ l, ActsH L (.slice a xs.length cap) l := by
  rcases hx with rfl | ⟨b, off, cs, E, f, i, rfl, hi, hc⟩
  · exact ⟨[], a, cap, rfl, h, hm, fun j x hj => by simp at hj⟩
  have hlen : (xs.mapIdx fun j x => (⟨x.1, x.2.1, x.2.2.1, x.2.2.2.1, x.2.2.2.2.1, x.2.2.2.2.2.1, (cs[off + j * 7 + 6]?).getD (.slice none 0 0)⟩ : ActV)).length = xs.length := List.length_mapIdx
  refine ⟨xs.mapIdx fun j x => ⟨x.1, x.2.1, x.2.2.1, x.2.2.2.1, x.2.2.2.2.1, x.2.2.2.2.2.1, (cs[off + j * 7 + 6]?).getD (.slice none 0 0)⟩, some ⟨b, off, none⟩, cap, by rw [hlen], by rw [hlen]; exact h, hm, fun j y hj => ?_⟩
  rw [List.getElem?_mapIdx] at hj
  obtain ⟨x, hx, rfl⟩ := Option.map_eq_some_iff.1 hj
  obtain ⟨⟨c0, w0⟩, ⟨c1, w1⟩, ⟨c2, w2⟩, ⟨c3, w3⟩, ⟨c4, w4⟩, ⟨c5, w5⟩, sa, sc, c6, _⟩ := hc j x hx
  have d6 : cs[off + j * 7 + 6]? = some (.slice sa x.2.2.2.2.2.2.length sc) := c6
  have hg : ∀ q, q < 7 → cs[off + j * 7 + q]? = (acC ⟨x.1, x.2.1, x.2.2.1, x.2.2.2.1, x.2.2.2.2.1, x.2.2.2.2.2.1, (cs[off + j * 7 + 6]?).getD (.slice none 0 0)⟩).toList[q]? := fun q hq => by
    match q, hq with
    | 0, _ => exact c0
    | 1, _ => exact c1
    | 2, _ => exact c2
    | 3, _ => exact c3
    | 4, _ => exact c4
    | 5, _ => exact c5
    | 6, _ => rw [d6]; rfl
  obtain ⟨e1, e2⟩ := ext_of (n := 7) rfl (by decide) hg
  refine ⟨b, off, cs, E, f, rfl, List.mem_of_getElem? hi, ⟨u8_bounds w0, u8_bounds w1, u8_bounds w2, u8_bounds w3, ?_⟩, e1, e2⟩
  simp only [d6]
  rfl
end Go.Proofs.YtncgndcepoicbaaGreat
