/-
  StoreKnown is proved: the chapter's examples, and the limits that it names. No condition.
-/
import Derived.Test.YtmdiabglbmgkkaaKS3
namespace Go.Proofs.Ytmdiabglbmgkkaa
open Go.ChangeShapes Go.WideShapes Go.ChangeAt Go.RowKit
set_option maxRecDepth 100000 in
theorem storeKnown_lifted (os : Os) (started : os.Started) (H : Type) (enc : TypeId × Value → H) :
    ReturnsInHanded {} Try.checked os 6 .any (Rows.storeKnownSpec.pre6 enc Try.prog Try.f6 Rows.storeKnownRow.domain false) (Rows.storeKnownSpec.post enc Try.prog Try.f6 false true false false) := by
  refine lifted (C := Try.checked) (tb := 4) ownOf started (by kernel_rfl) Try.func6
    (ChangeSpec.witness6 (enc := enc) (C := Try.checked) false ⟨#[], #[], []⟩ 8 (by kernel_rfl) (by kernel_rfl) (by kernel_rfl) (by kernel_rfl)) laidOf (by kernel_rfl) rfl rfl Try.underlying4 ?_ ?_
  · intro ds h
    cases ds with
    | nil => rfl
    | cons d ds => cases h
  · intro W base args ds ps hval hA hfz
    have hA' : DataW.TrodAll enc Try.prog W 0 (fun _ => true) true [] args.toList ds ps := hA
    obtain ⟨h1, _, _⟩ := trodAll_nil hA'
    rw [h1]
    exact known15_fn
theorem storeKnown_holds : Rows.StoreKnownSaid :=
  OpenClaim.holds_of_wide 6 Try.f6 rfl rfl rfl rfl rfl rfl rfl ⟨rfl, rfl, rfl, rfl, rfl⟩ rfl rfl rfl rfl rfl (by kernel_rfl) Try.func6 (by kernel_rfl)
    (of_decide_eq_true (by kernel_rfl)) (by unfold Func.isWrapper; first | (rw [if_pos (by decide +kernel)]; kernel_rfl) | (rw [if_neg (by decide +kernel)]; exact ⟨rfl, rfl⟩))
    (fun os started H enc _ => storeKnown_lifted os started H enc)
end Go.Proofs.Ytmdiabglbmgkkaa
