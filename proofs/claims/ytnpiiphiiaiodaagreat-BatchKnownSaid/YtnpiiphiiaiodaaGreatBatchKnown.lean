/-
  BatchKnown is proved: the chapter's examples, and what is refused. No condition.
-/
import Derived.Test.YtnpiiphiiaiodaaGreatEt10
import Derived.Test.YtnpiiphiiaiodaaGreatLift
namespace Go.Proofs.YtnpiiphiiaiodaaGreat
open Go.ChangeShapes Go.WideShapes Go.ChangeAt Go.RowKit

theorem batchKnown_run : trueX Tryz.prog tab 100000 200 3 = true := by kernel_rfl

set_option maxRecDepth 100000 in
theorem batchKnown_lifted (os : Os) (started : os.Started) (H : Type) (enc : TypeId × Value → H) :
    ReturnsInHanded {} Tryz.checked os 3 .any (Rows.batchKnownSpec.pre6 enc Tryz.prog Tryz.f3 Rows.batchKnownRow.domain false) (Rows.batchKnownSpec.post enc Tryz.prog Tryz.f3 false true false false) := by
  refine lifted (C := Tryz.checked) (tb := 4) ownOf started (by kernel_rfl) Tryz.func3
    (ChangeSpec.witness6 (enc := enc) (C := Tryz.checked) false ⟨#[], #[], []⟩ 8 (by kernel_rfl) (by kernel_rfl) (by kernel_rfl) (by kernel_rfl)) laidOf (by kernel_rfl) rfl rfl Tryz.underlying4 ?_ ?_
  · intro ds h
    cases ds with
    | nil => rfl
    | cons d ds => cases h
  · intro W base args ds ps hval hA hfz
    have hA' : DataW.TrodAll enc Tryz.prog W 0 (fun _ => true) true [] args.toList ds ps := hA
    obtain ⟨h1, _, _⟩ := trodAll_nil hA'
    rw [h1]
    exact runX' mixed tab_ok batchKnown_run _

theorem batchKnown_holds : Rows.BatchKnownSaid :=
  OpenClaim.holds_of_wide 3 Tryz.f3 rfl rfl rfl rfl rfl rfl rfl ⟨rfl, rfl, rfl, rfl, rfl⟩ rfl rfl rfl rfl rfl (by kernel_rfl) Tryz.func3 (by kernel_rfl)
    (of_decide_eq_true (by kernel_rfl)) (by unfold Func.isWrapper; first | (rw [if_pos (by decide +kernel)]; kernel_rfl) | (rw [if_neg (by decide +kernel)]; exact ⟨rfl, rfl⟩))
    (fun os started H enc _ => batchKnown_lifted os started H enc)
end Go.Proofs.YtnpiiphiiaiodaaGreat
