/-
  The cell of errors.errorType; layer 1's works. It proves no statement by itself.
-/
import Derived.Test.YtcnbecdpfildnaaDoorEw01
namespace Go.Proofs.YtcnbecdpfildnaaDoor
open Go.RowKit
/-- The cell of errors.errorType, wherever memory holds it. -/
def HandleIn (L : List (Nat × Obj)) : Prop := ∃ cs E fr, (0, Obj.cells cs E fr) ∈ L ∧ cs[0]? = some handle
theorem HandleIn.cons {L : List (Nat × Obj)} (p : Nat × Obj) (h : HandleIn L) : HandleIn (p :: L) := by
  obtain ⟨cs, E, fr, h1, h2⟩ := h
  exact ⟨cs, E, fr, List.mem_cons_of_mem _ h1, h2⟩
theorem works_fn {L : List (Nat × Obj)} (h : HandleIn L) : Fn Tryd.prog 8 [] L (fun v L' => v = .bool true ∧ L' = L) := by
  obtain ⟨cs, E, fr, h1, h2⟩ := h
  exact runD doorPr_ok mixed tab_ok (doorH_cov h2) doorH_zero works_run h1

theorem HandleIn.app {L : List (Nat × Obj)} (A : List (Nat × Obj)) (h : HandleIn L) : HandleIn (A ++ L) := by
  obtain ⟨cs, E, fr, h1, h2⟩ := h
  exact ⟨cs, E, fr, List.mem_append_right _ h1, h2⟩
end Go.Proofs.YtcnbecdpfildnaaDoor
