/-
  Arguments that are texts, or slices of bytes. It proves no statement by itself.
-/
import Derived.Test.YtcnbecdpfildnaaDoorRd
import Derived.Test.YtcnbecdpfildnaaDoorBy
import Derived.ChangeMaps5
namespace Go.Proofs.YtcnbecdpfildnaaDoor
open Go.ChangeShapes Go.WideShapes Go.ChangeAt Go.RowKit

theorem by_of {L : List (Nat × Obj)} {a : Option Addr} {cap : Nat} {xs : List Int} (h : xs.length ≤ cap) (hm : cap ≤ maxLen) (hx : SlLie (intR .u8) L a xs) : ∃ l : List UInt8, l.length = xs.length ∧ ByAt L (.slice a xs.length cap) l := by
  refine ⟨xs.map fun x => UInt8.ofNat x.toNat, by simp, ?_⟩
  unfold ByAt
  rw [List.length_map]
  refine ⟨by simp, a, cap, rfl, h, hm, ?_⟩
  rcases hx with rfl | ⟨b, off, cs, E, fr, i, h1, h2, h3⟩
  · exact .inl rfl
  · refine .inr ⟨b, off, cs, E, fr, i, h1, h2, fun j x hj => ?_⟩
    simp only [List.map_map, List.getElem?_map] at hj
    obtain ⟨y, hy, rfl⟩ := Option.map_eq_some_iff.1 hj
    obtain ⟨h4, h5⟩ := h3 j y hy
    have hb := u8_bounds h5
    have h6 : cs[off + j]? = some (.int .u8 y) := by simpa [intR] using h4
    rw [h6]
    simp only [Function.comp, bV, UInt8.toNat_ofNat', Option.some.injEq, Value.int.injEq, true_and]
    omega
theorem arg_str {H : Type} {enc : TypeId × Value → H} {P : Program} {W : World} {r : Reach} {b0 t : TypeId} {v : Value} {d : DataW H} {p : List MemPlace} (ht : P.underlying t = some .string) (hval : Value.okWide P W r b0 t v) (h : DataW.Trod enc P W 0 (fun _ => true) true t v d p) :
    ∃ l : List UInt8, v = .string (bstr l) ∧ l.length ≤ maxLen := by
  obtain ⟨s, rfl, _, _, hs⟩ := Go.ChangeMaps.open_string ht hval h
  refine ⟨s.data.toList, by rw [← bstr_of], ?_⟩
  simpa using hs
end Go.Proofs.YtcnbecdpfildnaaDoor
