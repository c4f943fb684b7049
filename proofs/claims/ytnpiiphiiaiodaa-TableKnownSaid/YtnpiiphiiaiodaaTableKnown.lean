/-
  TableKnown is proved: the chapter's examples, and the limits that it names. No condition.
-/
import Derived.Test.YtnpiiphiiaiodaaEt09
import Derived.Test.YtnpiiphiiaiodaaLift
namespace Go.Proofs.Ytnpiiphiiaiodaa
open Go.ChangeShapes Go.WideShapes Go.ChangeAt Go.RowKit

theorem tableKnown_run : trueX Try.prog tab 100000 200 5 = true := by kernel_rfl

set_option maxRecDepth 100000 in
theorem tableKnown_lifted (os : Os) (started : os.Started) (H : Type) (enc : TypeId × Value → H) :
    ReturnsInHanded {} Try.checked os 5 .any (Rows.tableKnownSpec.pre6 enc Try.prog Try.f5 Rows.tableKnownRow.domain false) (Rows.tableKnownSpec.post enc Try.prog Try.f5 false true false false) := by
  refine lifted (C := Try.checked) (tb := 4) ownOf started (by kernel_rfl) Try.func5
    (ChangeSpec.witness6 (enc := enc) (C := Try.checked) false ⟨#[], #[], []⟩ 8 (by kernel_rfl) (by kernel_rfl) (by kernel_rfl) (by kernel_rfl)) laidOf (by kernel_rfl) rfl rfl Try.underlying4 ?_ ?_
  · intro ds h
    cases ds with
    | nil => rfl
    | cons d ds => cases h
  · intro W base args ds ps hval hA hfz
    have hA' : DataW.TrodAll enc Try.prog W 0 (fun _ => true) true [] args.toList ds ps := hA
    obtain ⟨h1, _, _⟩ := trodAll_nil hA'
    rw [h1]
    exact runX' mixed tab_ok tableKnown_run _

theorem tableKnown_holds : Rows.TableKnownSaid :=
  OpenClaim.holds_of_wide 5 Try.f5 rfl rfl rfl rfl rfl rfl rfl ⟨rfl, rfl, rfl, rfl, rfl⟩ rfl rfl rfl rfl rfl (by kernel_rfl) Try.func5 (by kernel_rfl)
    (of_decide_eq_true (by kernel_rfl)) (by unfold Func.isWrapper; first | (rw [if_pos (by decide +kernel)]; kernel_rfl) | (rw [if_neg (by decide +kernel)]; exact ⟨rfl, rfl⟩))
    (fun os started H enc _ => tableKnown_lifted os started H enc)
end Go.Proofs.Ytnpiiphiiaiodaa
