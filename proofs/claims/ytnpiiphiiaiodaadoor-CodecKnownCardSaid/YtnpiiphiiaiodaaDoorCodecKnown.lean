/-
  CodecKnown is proved (the tied card): the chapter's examples, and the limits that it names. No condition.
-/
import Derived.Test.YtnpiiphiiaiodaaDoorEt03
import Derived.Test.YtnpiiphiiaiodaaDoorLiftH
import Derived.Test.YtnpiiphiiaiodaaDoorTie
import Derived.Test.YtnpiiphiiaiodaaDoorCards
import Derived.SevenTiedAt
namespace Go.Proofs.YtnpiiphiiaiodaaDoor
open Go.ChangeShapes Go.WideShapes Go.ChangeAt Go.RowKit

theorem codecKnown_run : trueG Tryd.prog tab 100000 doorPr doorH 200 3 = true := by kernel_rfl

set_option maxRecDepth 100000 in
theorem codecKnown_lifted (os : Os) (started : os.Started) (H : Type) (enc : TypeId × Value → H) :
    ReturnsInHanded {} Tryd.checked os 3 .any (fun w args => (Rows.codecKnownSpec.pre enc Tryd.prog Tryd.f3 [] false w args ∧ laidMetH Tryd.prog laidL w) ∧ sizedMet enc Tryd.prog Tryd.f3 (OpenSpec.ofChange Rows.codecKnownSpec) false w args) (Rows.codecKnownSpec.post enc Tryd.prog Tryd.f3 false true false false) := by
  refine liftedH (tb := 4) started (by kernel_rfl) Tryd.func3
    (ChangeSpec.witness_at (enc := enc) (C := Tryd.checked) (os := os) (X := fun w _ => laidMetH Tryd.prog laidL w) false (laidWorld os) #[] 8 rfl (by kernel_rfl) (by kernel_rfl) (by kernel_rfl) (by kernel_rfl) (by kernel_rfl) (laidWorld_met os _)) (by kernel_rfl) rfl rfl Tryd.underlying4 ?_ ?_
  · intro ds h
    cases ds with
    | nil => rfl
    | cons d ds => cases h
  · intro W base args ds ps hval hA hfz ⟨cs, E, fr, hin, hc⟩
    have hA' : DataW.TrodAll enc Tryd.prog W 0 (fun _ => true) true [] args.toList ds ps := hA
    obtain ⟨h1, _, _⟩ := trodAll_nil hA'
    rw [h1]
    exact runD doorPr_ok mixed tab_ok (doorH_cov hc) doorH_zero codecKnown_run hin

theorem codecKnown_said : Rows.CodecKnownSaid :=
  OpenClaim.holds_of_wide 3 Tryd.f3 rfl rfl rfl rfl rfl rfl rfl ⟨rfl, rfl, rfl, rfl, rfl⟩ rfl rfl rfl rfl rfl (by kernel_rfl) Tryd.func3 (by kernel_rfl)
    (of_decide_eq_true (by kernel_rfl)) (by unfold Func.isWrapper; first | (rw [if_pos (by decide +kernel)]; kernel_rfl) | (rw [if_neg (by decide +kernel)]; exact ⟨rfl, rfl⟩))
    (fun os started H enc _ => codecKnown_lifted os started H enc)

theorem codecKnown_holds : Rows.CodecKnownCardSaid :=
  Claim7.holds_tied_plain_at .later [] [.handle] true Rows.codecKnownCard.stood.harness true
    codecKnown_said (fun _ h => by cases h) (by kernel_rfl) (fun _ h => by cases h) codecKnown_row_tie rfl ⟨rfl, rfl⟩ (by kernel_rfl) rfl
    (fun f fn hf hfn => by
      obtain rfl : f = 3 := Option.some.inj ((show Tryd.prog.funcNamed "anabranch/anabranchlaw03.CodecKnown" = some 3 by kernel_rfl).symm.trans hf) |>.symm
      obtain rfl : fn = Tryd.f3 := (Option.some.inj (Tryd.func3.symm.trans hfn)).symm
      exact ⟨by kernel_rfl, fun j t ht => by
        exfalso
        have hp : Tryd.f3.params = #[] := rfl
        rw [hp] at ht
        simp at ht⟩)
    (by kernel_rfl)
end Go.Proofs.YtnpiiphiiaiodaaDoor
